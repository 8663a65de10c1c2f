/-
  SettleMore: the settles that it makes, walked.
-/
import Derived.Test.YtppmifiahebgfaaKL0
import Derived.Test.YtppmifiahebgfaaP8
namespace Go.Ab
open Go.Proofs
set_option linter.unusedSimpArgs false
set_option linter.unusedVariables false
set_option maxRecDepth 100000

variable {H : Heap} {vb vt : AV}

/-- What SettleMore keeps: four more settles, and what they are of. -/
def moreH (vb vt : AV) (s X : Stl) (near : Int) (h : Nat) (zb : List Blk) (zt tt : List Tch) (nb nz nt : Nat) : Heap :=
  [.box (.agg [vb, I s.near, I s.last, vt]), .box (.agg [.gsl (h + 5) s.bs.length, I s.near, I s.last, .gsl (h + 6) s.ts.length]), .box (.agg [vb, I near, I s.last, vt]),
   .box (.agg [.gsl (h + 7) nb, I s.near, I s.last, .gsl (h + 8) nz]), .box (.agg [vb, I s.near, I s.last, .gsl (h + 9) nt]),
   .grow 6 (X.bs.map Blk.av), .grow 4 (X.ts.map Tch.av), .grow 6 (zb.map Blk.av), .grow 4 (zt.map Tch.av), .grow 4 (tt.map Tch.av)]

theorem More_l17 (R : Option Done) (K : List Item) (s X : Stl) (hv : s.valid = true) (hvb : SlOk H 6 vb (s.bs.map Blk.av)) (hvt : SlOk H 4 vt (s.ts.map Tch.av)) (near b m : Int)
    (hK : ∀ E : Env, E.get 4 = .ptr H.length 0 → E.get 9 = I b → E.get 10 = I m → E.get 11 = .ptr (H.length + 1) 0 → E.get 12 = .ptr (H.length + 2) 0 → E.get 13 = .ptr (H.length + 3) 0 → E.get 14 = .ptr (H.length + 4) 0 →
      Option.map (finishC H.length) (execL cfg0 prog0 ⟨11, none, false, H.length⟩ K ⟨E, [], H ++ moreH vb vt s X near H.length (s.bs.map Blk.neg) [] [] s.bs.length 0 0, none⟩) = R) :
    ∀ (q j len : Nat) (acc : List Blk), j + q = s.bs.length → acc = (s.bs.take j).map Blk.neg → len = j → ∀ (E : Env) (G : Heap), E.get 4 = .ptr H.length 0 → E.get 9 = I b → E.get 10 = I m → E.get 11 = .ptr (H.length + 1) 0 → E.get 12 = .ptr (H.length + 2) 0 → E.get 13 = .ptr (H.length + 3) 0 → E.get 14 = .ptr (H.length + 4) 0 → E.get 158 = vb → E.get 159 = I s.bs.length → E.get 160 = I j →
    Option.map (finishC H.length) (execL cfg0 prog0 ⟨11, none, false, H.length⟩ (loopIt Try.f11 17 :: .inBlock 1 :: K) ⟨E, [], H ++ (moreH vb vt s X near H.length acc [] [] len 0 0 ++ G), none⟩) = R := by
  intro q
  have hn := valid_nums hv
  have hwf := Stl.valid_wf hv
  have l1 : ltL 0 (X.bs.map Blk.av) = true := ltL_map (fun _ => rfl) _
  have l2 : ltL 0 (X.ts.map Tch.av) = true := ltL_map (fun _ => rfl) _
  induction q with
  | zero =>
    intro j len acc hj hacc hlen E G g4 g9 g10 g11 g12 g13 g14 g158 g159 g160
    have hk' : ¬ (j : Int) < s.bs.length := by omega
    have l3 : ltL 0 (acc.map Blk.av) = true := ltL_map (fun _ => rfl) _
    rw [show j = s.bs.length by omega, List.take_length] at hacc
    have hl : len = s.bs.length := by omega
    subst hacc hl
    simp only [loopIt, todoPast, todoAt, todoOf, firstReg, ↓reduceIte, Option.some.injEq, Nat.reduceEqDiff, reduceCtorEq, Try.f11]
    rw [execL_inLoop]
    simp only [moreH, List.cons_append, List.nil_append, List.map_nil] at hK ⊢
    simp only [go_sem, ↓reduceIte, Nat.reduceEqDiff, Nat.reduceAdd, Nat.reduceLeDiff, Nat.reduceBEq, Nat.reduceMul, Nat.reduceLT, Int.reduceLT, Int.reduceLE, Int.reduceToNat, Int.reduceNeg, Int.reduceEq, Int.reduceMul, reduceCtorEq, Int.reduceBEq, Int.reduceBNe, Int.reduceAdd, Int.reduceSub, bne_self_eq_false, beq_self_eq_true, Nat.le_add_right, eqOk, fn11, res11, gc11_0, gc11_1, gc11_2, gc11_3, gc11_4, gc11_5, gc11_6, gc11_7, gc11_8, gc11_9, gc11_10, gc11_11, gc11_12, gc11_13, gc11_14, gc11_15, gc11_16, gc11_17, gc11_18, gc11_19, gc11_20, gc11_21, gc11_22, gc11_23, gc11_24, gc11_25, gc11_26, gc11_27, gc11_28, gc11_29, gc11_30, gc11_31, gc11_32, gc11_33, gc11_34, gc11_35, gc11_36, gc11_37, gc11_38, gc11_39, gc11_40, gc11_41, gc11_42, gc11_43, gc11_44, gc11_45, gc11_46, gc11_47, gc11_48, gc11_49, gc11_50, gc11_51, gc11_52, gc11_53, gc11_54, gc11_55, gc11_56, gc11_57, gc11_58, gc11_59, gc11_60, gc11_61, gc11_62, gc11_63, gc11_64, gc11_65, gc11_66, gc11_67, gcSt, keepEnv, envLt, heapLt, dfrLt, ADefer.lt, grow11_8, grow11_9, grow11_10, grow11_11, grow11_12, grow11_13, grow11_14, grow11_15, grow11_17, grow11_18, grow11_19, grow11_20, grow11_21, grow11_22, grow11_23, grow11_24, grow11_25, grow11_26, grow11_27, grow11_28, grow11_29, grow11_30, grow11_31, grow11_32, grow11_33, grow11_34, grow11_35, grow11_36, grow11_37, grow11_38, grow11_39, grow11_40, grow11_41, grow11_42, grow11_43, grow11_44, grow11_45, grow11_46, grow11_79, grow11_80, grow11_86, grow11_95, grow11_131, grow11_144, grow11_153, grow11_154, grow11_155, grow11_156, grow11_173, grow11_179, grow11_208, grow11_218, grow11_224, ty3, ty5, ty22, ty23, ty25, ty29, ty30, ty38, ty56, ty63, plan11_3, plan11_4, plan11_5, plan11_10, plan11_12, plan11_13, plan11_31, plan11_49, plan11_58, plan11_64, eqt29, eqt56, eqt63, g4, g9, g10, g11, g12, g13, g14, g158, g159, g160, hk', hvb.ltn, hvt.ltn, l1, l2, l3]
    exact hK _ (by rfl) (by rfl) (by rfl) (by rfl) (by rfl) (by rfl) (by rfl)
  | succ q ih =>
    intro j len acc hj hacc hlen E G g4 g9 g10 g11 g12 g13 g14 g158 g159 g160
    have hk' : (j : Int) < s.bs.length := by omega
    have hk2 : j < s.bs.length := by omega
    have l3 : ltL 0 (acc.map Blk.av) = true := ltL_map (fun _ => rfl) _
    obtain ⟨-, -, b3, b4, b5⟩ := hvb.at (k := (j : Int)) (x := Blk.av s.bs[j]) (by omega) (by simp [hk2])
    have hj1 : IntKind.i64.wrap ((j : Int) + 1) = ((j + 1 : Nat) : Int) := by rw [w64 (by omega) (by omega)]; omega
    have hbo := hwf.bs s.bs[j] (List.getElem_mem _)
    have k1 := hbo.a1; have k2 := hbo.a2; have k3 := hbo.a3
    have e1 : IntKind.i64.wrap (0 - s.bs[j].x1) = -s.bs[j].x1 := by rw [w64 (by omega) (by omega)]; omega
    have e2 : IntKind.i64.wrap (0 - s.bs[j].x0) = -s.bs[j].x0 := by rw [w64 (by omega) (by omega)]; omega
    have hal : acc.length = j := by rw [hacc]; simp; omega
    have hnext : acc ++ [s.bs[j].neg] = (s.bs.take (j + 1)).map Blk.neg := by
      rw [List.take_add_one, List.getElem?_eq_getElem hk2, hacc, List.map_append]; rfl
    have hih := ih (j + 1) (len + 1) (acc ++ [s.bs[j].neg]) (by omega) hnext (by omega)
    have hadd : ∀ (o : AO), addElem (H ++ (moreH vb vt s X near H.length acc [] [] len 0 0 ++ [o])) 6 true (.gsl (H.length + 7) len) [.agg [I (-s.bs[j].x1), I (-s.bs[j].x0), I s.bs[j].s0, I s.bs[j].s1, I s.bs[j].g0, I s.bs[j].g1]] = some (.gsl (H.length + 7) (len + 1), H ++ (((moreH vb vt s X near H.length acc [] [] len 0 0).set 7 (.grow 6 ((acc ++ [s.bs[j].neg]).map Blk.av))) ++ [o])) := by
      intro o
      rw [add_gsl (xs := acc.map Blk.av) (by rw [get_at' 7]; rfl) (by simp; omega) rfl rfl (by simp; omega), set_at']
      simp only [moreH, List.set_cons_succ, List.set_cons_zero, List.map_append, List.cons_append, List.nil_append]
      rfl
    simp only [loopIt, todoPast, todoAt, todoOf, firstReg, ↓reduceIte, Option.some.injEq, Nat.reduceEqDiff, reduceCtorEq, Try.f11]
    rw [execL_inLoop]
    simp only [moreH, List.cons_append, List.nil_append, List.map_nil, List.set_cons_succ, List.set_cons_zero] at hih hadd ⊢
    simp only [go_sem, ↓reduceIte, Nat.reduceEqDiff, Nat.reduceAdd, Nat.reduceLeDiff, Nat.reduceBEq, Nat.reduceMul, Nat.reduceLT, Int.reduceLT, Int.reduceLE, Int.reduceToNat, Int.reduceNeg, Int.reduceEq, Int.reduceMul, reduceCtorEq, Int.reduceBEq, Int.reduceBNe, Int.reduceAdd, Int.reduceSub, bne_self_eq_false, beq_self_eq_true, Nat.le_add_right, eqOk, fn11, res11, gc11_0, gc11_1, gc11_2, gc11_3, gc11_4, gc11_5, gc11_6, gc11_7, gc11_8, gc11_9, gc11_10, gc11_11, gc11_12, gc11_13, gc11_14, gc11_15, gc11_16, gc11_17, gc11_18, gc11_19, gc11_20, gc11_21, gc11_22, gc11_23, gc11_24, gc11_25, gc11_26, gc11_27, gc11_28, gc11_29, gc11_30, gc11_31, gc11_32, gc11_33, gc11_34, gc11_35, gc11_36, gc11_37, gc11_38, gc11_39, gc11_40, gc11_41, gc11_42, gc11_43, gc11_44, gc11_45, gc11_46, gc11_47, gc11_48, gc11_49, gc11_50, gc11_51, gc11_52, gc11_53, gc11_54, gc11_55, gc11_56, gc11_57, gc11_58, gc11_59, gc11_60, gc11_61, gc11_62, gc11_63, gc11_64, gc11_65, gc11_66, gc11_67, gcSt, keepEnv, envLt, heapLt, dfrLt, ADefer.lt, grow11_8, grow11_9, grow11_10, grow11_11, grow11_12, grow11_13, grow11_14, grow11_15, grow11_17, grow11_18, grow11_19, grow11_20, grow11_21, grow11_22, grow11_23, grow11_24, grow11_25, grow11_26, grow11_27, grow11_28, grow11_29, grow11_30, grow11_31, grow11_32, grow11_33, grow11_34, grow11_35, grow11_36, grow11_37, grow11_38, grow11_39, grow11_40, grow11_41, grow11_42, grow11_43, grow11_44, grow11_45, grow11_46, grow11_79, grow11_80, grow11_86, grow11_95, grow11_131, grow11_144, grow11_153, grow11_154, grow11_155, grow11_156, grow11_173, grow11_179, grow11_208, grow11_218, grow11_224, ty3, ty5, ty22, ty23, ty25, ty29, ty30, ty38, ty56, ty63, plan11_3, plan11_4, plan11_5, plan11_10, plan11_12, plan11_13, plan11_31, plan11_49, plan11_58, plan11_64, eqt29, eqt56, eqt63, g4, g9, g10, g11, g12, g13, g14, g158, g159, g160, hk', hvb.ltn, hvt.ltn, l1, l2, l3, b3, b4, b5, Blk.av, e1, e2, f31, hadd, hj1]
    exact hih _ _ (by rfl) (by rfl) (by rfl) (by rfl) (by rfl) (by rfl) (by rfl) (by rfl) (by rfl) (by rfl)

theorem More_l23 (R : Option Done) (K : List Item) (s X : Stl) (hv : s.valid = true) (hvb : SlOk H 6 vb (s.bs.map Blk.av)) (hvt : SlOk H 4 vt (s.ts.map Tch.av)) (near b m : Int) (Z : List Blk)
    (hK : ∀ E : Env, E.get 4 = .ptr H.length 0 → E.get 9 = I b → E.get 10 = I m → E.get 11 = .ptr (H.length + 1) 0 → E.get 12 = .ptr (H.length + 2) 0 → E.get 13 = .ptr (H.length + 3) 0 → E.get 14 = .ptr (H.length + 4) 0 →
      Option.map (finishC H.length) (execL cfg0 prog0 ⟨11, none, false, H.length⟩ K ⟨E, [], H ++ moreH vb vt s X near H.length Z (s.ts.map Tch.neg) (s.ts.reverse.filter fun t => t.b == b) s.bs.length s.ts.length (s.ts.reverse.filter fun t => t.b == b).length, none⟩) = R) :
    ∀ (q j lz lt : Nat) (az at' : List Tch), j + q = s.ts.length → az = (s.ts.take j).map Tch.neg → at' = (s.ts.reverse.take j).filter (fun t => t.b == b) → lz = j → lt = at'.length → ∀ (E : Env) (G : Heap), E.get 4 = .ptr H.length 0 → E.get 9 = I b → E.get 10 = I m → E.get 11 = .ptr (H.length + 1) 0 → E.get 12 = .ptr (H.length + 2) 0 → E.get 13 = .ptr (H.length + 3) 0 → E.get 14 = .ptr (H.length + 4) 0 → E.get 182 = vt → E.get 183 = I s.ts.length → E.get 184 = I j →
    Option.map (finishC H.length) (execL cfg0 prog0 ⟨11, none, false, H.length⟩ (loopIt Try.f11 23 :: .inBlock 3 :: K) ⟨E, [], H ++ (moreH vb vt s X near H.length Z az at' s.bs.length lz lt ++ G), none⟩) = R := by
  intro q
  have hn := valid_nums hv
  have hwf := Stl.valid_wf hv
  have l1 : ltL 0 (X.bs.map Blk.av) = true := ltL_map (fun _ => rfl) _
  have l2 : ltL 0 (X.ts.map Tch.av) = true := ltL_map (fun _ => rfl) _
  have l3 : ltL 0 (Z.map Blk.av) = true := ltL_map (fun _ => rfl) _
  induction q with
  | zero =>
    intro j lz lt az at' hj haz hat hlz hlt E G g4 g9 g10 g11 g12 g13 g14 g182 g183 g184
    have hk' : ¬ (j : Int) < s.ts.length := by omega
    have l4 : ltL 0 (az.map Tch.av) = true := ltL_map (fun _ => rfl) _
    have l5 : ltL 0 (at'.map Tch.av) = true := ltL_map (fun _ => rfl) _
    rw [show j = s.ts.length by omega, List.take_length] at haz
    rw [show j = s.ts.reverse.length by simp; omega, List.take_length] at hat
    have hl : lz = s.ts.length := by omega
    subst hlt haz hat hl
    simp only [loopIt, todoPast, todoAt, todoOf, firstReg, ↓reduceIte, Option.some.injEq, Nat.reduceEqDiff, reduceCtorEq, Try.f11]
    rw [execL_inLoop]
    simp only [moreH, List.cons_append, List.nil_append, List.map_nil] at hK ⊢
    simp only [go_sem, ↓reduceIte, Nat.reduceEqDiff, Nat.reduceAdd, Nat.reduceLeDiff, Nat.reduceBEq, Nat.reduceMul, Nat.reduceLT, Int.reduceLT, Int.reduceLE, Int.reduceToNat, Int.reduceNeg, Int.reduceEq, Int.reduceMul, reduceCtorEq, Int.reduceBEq, Int.reduceBNe, Int.reduceAdd, Int.reduceSub, bne_self_eq_false, beq_self_eq_true, Nat.le_add_right, eqOk, fn11, res11, gc11_0, gc11_1, gc11_2, gc11_3, gc11_4, gc11_5, gc11_6, gc11_7, gc11_8, gc11_9, gc11_10, gc11_11, gc11_12, gc11_13, gc11_14, gc11_15, gc11_16, gc11_17, gc11_18, gc11_19, gc11_20, gc11_21, gc11_22, gc11_23, gc11_24, gc11_25, gc11_26, gc11_27, gc11_28, gc11_29, gc11_30, gc11_31, gc11_32, gc11_33, gc11_34, gc11_35, gc11_36, gc11_37, gc11_38, gc11_39, gc11_40, gc11_41, gc11_42, gc11_43, gc11_44, gc11_45, gc11_46, gc11_47, gc11_48, gc11_49, gc11_50, gc11_51, gc11_52, gc11_53, gc11_54, gc11_55, gc11_56, gc11_57, gc11_58, gc11_59, gc11_60, gc11_61, gc11_62, gc11_63, gc11_64, gc11_65, gc11_66, gc11_67, gcSt, keepEnv, envLt, heapLt, dfrLt, ADefer.lt, grow11_8, grow11_9, grow11_10, grow11_11, grow11_12, grow11_13, grow11_14, grow11_15, grow11_17, grow11_18, grow11_19, grow11_20, grow11_21, grow11_22, grow11_23, grow11_24, grow11_25, grow11_26, grow11_27, grow11_28, grow11_29, grow11_30, grow11_31, grow11_32, grow11_33, grow11_34, grow11_35, grow11_36, grow11_37, grow11_38, grow11_39, grow11_40, grow11_41, grow11_42, grow11_43, grow11_44, grow11_45, grow11_46, grow11_79, grow11_80, grow11_86, grow11_95, grow11_131, grow11_144, grow11_153, grow11_154, grow11_155, grow11_156, grow11_173, grow11_179, grow11_208, grow11_218, grow11_224, ty3, ty5, ty22, ty23, ty25, ty29, ty30, ty38, ty56, ty63, plan11_3, plan11_4, plan11_5, plan11_10, plan11_12, plan11_13, plan11_31, plan11_49, plan11_58, plan11_64, eqt29, eqt56, eqt63, g4, g9, g10, g11, g12, g13, g14, g182, g183, g184, hk', hvb.ltn, hvt.ltn, l1, l2, l3, l4, l5]
    exact hK _ (by rfl) (by rfl) (by rfl) (by rfl) (by rfl) (by rfl) (by rfl)
  | succ q ih =>
    intro j lz lt az at' hj haz hat hlz hlt E G g4 g9 g10 g11 g12 g13 g14 g182 g183 g184
    have hk' : (j : Int) < s.ts.length := by omega
    have hk2 : j < s.ts.length := by omega
    have hk3 : s.ts.length - 1 - j < s.ts.length := by omega
    have l4 : ltL 0 (az.map Tch.av) = true := ltL_map (fun _ => rfl) _
    have l5 : ltL 0 (at'.map Tch.av) = true := ltL_map (fun _ => rfl) _
    obtain ⟨-, -, b3, b4, b5⟩ := hvt.at (k := (j : Int)) (x := Tch.av s.ts[j]) (by omega) (by simp [hk2])
    obtain ⟨-, -, c3, c4, c5⟩ := hvt.at (k := (s.ts.length : Int) - 1 - j) (x := Tch.av s.ts[s.ts.length - 1 - j]) (by omega) (by rw [show ((s.ts.length : Int) - 1 - j).toNat = s.ts.length - 1 - j by omega]; simp [hk3])
    have hj1 : IntKind.i64.wrap ((j : Int) + 1) = ((j + 1 : Nat) : Int) := by rw [w64 (by omega) (by omega)]; omega
    have e3 : IntKind.i64.wrap ((s.ts.length : Int) - 1) = (s.ts.length : Int) - 1 := w64 (by omega) (by omega)
    have e4 : IntKind.i64.wrap ((s.ts.length : Int) - 1 - j) = (s.ts.length : Int) - 1 - j := w64 (by omega) (by omega)
    have ht := hwf.ts s.ts[j] (List.getElem_mem _)
    have e1 : IntKind.i64.wrap (0 - s.ts[j].h1) = -s.ts[j].h1 := by rw [w64 (by omega) (by omega)]; omega
    have e2 : IntKind.i64.wrap (0 - s.ts[j].h0) = -s.ts[j].h0 := by rw [w64 (by omega) (by omega)]; omega
    have hazl : az.length = j := by rw [haz]; simp; omega
    have hatl : at'.length ≤ j := by
      rw [hat]
      refine Nat.le_trans (List.length_filter_le _ _) ?_
      rw [List.length_take]; omega
    have hnz : az ++ [s.ts[j].neg] = (s.ts.take (j + 1)).map Tch.neg := by
      rw [List.take_add_one, List.getElem?_eq_getElem hk2, haz, List.map_append]; rfl
    have hnt : (s.ts.reverse.take (j + 1)).filter (fun t => t.b == b) = at' ++ (if s.ts[s.ts.length - 1 - j].b = b then [s.ts[s.ts.length - 1 - j]] else []) := by
      rw [List.take_add_one, List.getElem?_reverse hk2, List.getElem?_eq_getElem hk3, List.filter_append, ← hat]
      congr 1
      by_cases hc : s.ts[s.ts.length - 1 - j].b = b <;> simp [hc]
    have hadZ : ∀ (at2 : List Tch) (lt2 : Nat) (o o2 : AO), addElem (H ++ (moreH vb vt s X near H.length Z az at2 s.bs.length lz lt2 ++ [o, o2])) 4 true (.gsl (H.length + 8) lz) [.agg [I s.ts[j].b, I s.ts[j].m, I (-s.ts[j].h1), I (-s.ts[j].h0)]] = some (.gsl (H.length + 8) (lz + 1), H ++ (((moreH vb vt s X near H.length Z az at2 s.bs.length lz lt2).set 8 (.grow 4 ((az ++ [s.ts[j].neg]).map Tch.av))) ++ [o, o2])) := by
      intro at2 lt2 o o2
      rw [add_gsl (xs := az.map Tch.av) (by rw [get_at' 8]; rfl) (by simp; omega) rfl rfl (by simp; omega), set_at']
      simp only [moreH, List.set_cons_succ, List.set_cons_zero, List.map_append, List.cons_append, List.nil_append]
      rfl
    simp only [loopIt, todoPast, todoAt, todoOf, firstReg, ↓reduceIte, Option.some.injEq, Nat.reduceEqDiff, reduceCtorEq, Try.f11]
    rw [execL_inLoop]
    by_cases hc : s.ts[s.ts.length - 1 - j].b = b
    · have d1 : (s.ts[s.ts.length - 1 - j].b == b) = true := by simp [hc]
      rw [if_pos hc] at hnt
      have hih := ih (j + 1) (lz + 1) (lt + 1) (az ++ [s.ts[j].neg]) (at' ++ [s.ts[s.ts.length - 1 - j]]) (by omega) hnz hnt.symm (by omega) (by rw [hlt]; simp)
      have hadT : ∀ (o o2 : AO), addElem (H ++ (moreH vb vt s X near H.length Z az at' s.bs.length lz lt ++ [o, o2])) 4 true (.gsl (H.length + 9) lt) [.agg [I s.ts[s.ts.length - 1 - j].b, I s.ts[s.ts.length - 1 - j].m, I s.ts[s.ts.length - 1 - j].h0, I s.ts[s.ts.length - 1 - j].h1]] = some (.gsl (H.length + 9) (lt + 1), H ++ (((moreH vb vt s X near H.length Z az at' s.bs.length lz lt).set 9 (.grow 4 ((at' ++ [s.ts[s.ts.length - 1 - j]]).map Tch.av))) ++ [o, o2])) := by
        intro o o2
        rw [add_gsl (xs := at'.map Tch.av) (by rw [get_at' 9]; rfl) (by simp [hlt]) rfl rfl (by simp; omega), set_at']
        simp only [moreH, List.set_cons_succ, List.set_cons_zero, List.map_append, List.cons_append, List.nil_append]
        rfl
      have hadZ := hadZ (at' ++ [s.ts[s.ts.length - 1 - j]]) (lt + 1)
      simp only [moreH, List.cons_append, List.nil_append, List.set_cons_succ, List.set_cons_zero] at hih hadZ hadT ⊢
      simp only [go_sem, ↓reduceIte, Nat.reduceEqDiff, Nat.reduceAdd, Nat.reduceLeDiff, Nat.reduceBEq, Nat.reduceMul, Nat.reduceLT, Int.reduceLT, Int.reduceLE, Int.reduceToNat, Int.reduceNeg, Int.reduceEq, Int.reduceMul, reduceCtorEq, Int.reduceBEq, Int.reduceBNe, Int.reduceAdd, Int.reduceSub, bne_self_eq_false, beq_self_eq_true, Nat.le_add_right, eqOk, fn11, res11, gc11_0, gc11_1, gc11_2, gc11_3, gc11_4, gc11_5, gc11_6, gc11_7, gc11_8, gc11_9, gc11_10, gc11_11, gc11_12, gc11_13, gc11_14, gc11_15, gc11_16, gc11_17, gc11_18, gc11_19, gc11_20, gc11_21, gc11_22, gc11_23, gc11_24, gc11_25, gc11_26, gc11_27, gc11_28, gc11_29, gc11_30, gc11_31, gc11_32, gc11_33, gc11_34, gc11_35, gc11_36, gc11_37, gc11_38, gc11_39, gc11_40, gc11_41, gc11_42, gc11_43, gc11_44, gc11_45, gc11_46, gc11_47, gc11_48, gc11_49, gc11_50, gc11_51, gc11_52, gc11_53, gc11_54, gc11_55, gc11_56, gc11_57, gc11_58, gc11_59, gc11_60, gc11_61, gc11_62, gc11_63, gc11_64, gc11_65, gc11_66, gc11_67, gcSt, keepEnv, envLt, heapLt, dfrLt, ADefer.lt, grow11_8, grow11_9, grow11_10, grow11_11, grow11_12, grow11_13, grow11_14, grow11_15, grow11_17, grow11_18, grow11_19, grow11_20, grow11_21, grow11_22, grow11_23, grow11_24, grow11_25, grow11_26, grow11_27, grow11_28, grow11_29, grow11_30, grow11_31, grow11_32, grow11_33, grow11_34, grow11_35, grow11_36, grow11_37, grow11_38, grow11_39, grow11_40, grow11_41, grow11_42, grow11_43, grow11_44, grow11_45, grow11_46, grow11_79, grow11_80, grow11_86, grow11_95, grow11_131, grow11_144, grow11_153, grow11_154, grow11_155, grow11_156, grow11_173, grow11_179, grow11_208, grow11_218, grow11_224, ty3, ty5, ty22, ty23, ty25, ty29, ty30, ty38, ty56, ty63, plan11_3, plan11_4, plan11_5, plan11_10, plan11_12, plan11_13, plan11_31, plan11_49, plan11_58, plan11_64, eqt29, eqt56, eqt63, g4, g9, g10, g11, g12, g13, g14, g182, g183, g184, hk', hvb.ltn, hvt.ltn, l1, l2, l3, l4, l5, hvt.len, List.length_map, b3, b4, b5, e3, e4, c3, c4, c5, Tch.av, d1, e1, e2, f31, hadT, hadZ, hj1]
      exact hih _ _ (by rfl) (by rfl) (by rfl) (by rfl) (by rfl) (by rfl) (by rfl) (by rfl) (by rfl) (by rfl)
    · have d1 : (s.ts[s.ts.length - 1 - j].b == b) = false := by simp [hc]
      rw [if_neg hc, List.append_nil] at hnt
      have hih := ih (j + 1) (lz + 1) lt (az ++ [s.ts[j].neg]) at' (by omega) hnz hnt.symm (by omega) hlt
      have hadZ := hadZ at' lt
      simp only [moreH, List.cons_append, List.nil_append, List.set_cons_succ, List.set_cons_zero] at hih hadZ ⊢
      simp only [go_sem, ↓reduceIte, Nat.reduceEqDiff, Nat.reduceAdd, Nat.reduceLeDiff, Nat.reduceBEq, Nat.reduceMul, Nat.reduceLT, Int.reduceLT, Int.reduceLE, Int.reduceToNat, Int.reduceNeg, Int.reduceEq, Int.reduceMul, reduceCtorEq, Int.reduceBEq, Int.reduceBNe, Int.reduceAdd, Int.reduceSub, bne_self_eq_false, beq_self_eq_true, Nat.le_add_right, eqOk, fn11, res11, gc11_0, gc11_1, gc11_2, gc11_3, gc11_4, gc11_5, gc11_6, gc11_7, gc11_8, gc11_9, gc11_10, gc11_11, gc11_12, gc11_13, gc11_14, gc11_15, gc11_16, gc11_17, gc11_18, gc11_19, gc11_20, gc11_21, gc11_22, gc11_23, gc11_24, gc11_25, gc11_26, gc11_27, gc11_28, gc11_29, gc11_30, gc11_31, gc11_32, gc11_33, gc11_34, gc11_35, gc11_36, gc11_37, gc11_38, gc11_39, gc11_40, gc11_41, gc11_42, gc11_43, gc11_44, gc11_45, gc11_46, gc11_47, gc11_48, gc11_49, gc11_50, gc11_51, gc11_52, gc11_53, gc11_54, gc11_55, gc11_56, gc11_57, gc11_58, gc11_59, gc11_60, gc11_61, gc11_62, gc11_63, gc11_64, gc11_65, gc11_66, gc11_67, gcSt, keepEnv, envLt, heapLt, dfrLt, ADefer.lt, grow11_8, grow11_9, grow11_10, grow11_11, grow11_12, grow11_13, grow11_14, grow11_15, grow11_17, grow11_18, grow11_19, grow11_20, grow11_21, grow11_22, grow11_23, grow11_24, grow11_25, grow11_26, grow11_27, grow11_28, grow11_29, grow11_30, grow11_31, grow11_32, grow11_33, grow11_34, grow11_35, grow11_36, grow11_37, grow11_38, grow11_39, grow11_40, grow11_41, grow11_42, grow11_43, grow11_44, grow11_45, grow11_46, grow11_79, grow11_80, grow11_86, grow11_95, grow11_131, grow11_144, grow11_153, grow11_154, grow11_155, grow11_156, grow11_173, grow11_179, grow11_208, grow11_218, grow11_224, ty3, ty5, ty22, ty23, ty25, ty29, ty30, ty38, ty56, ty63, plan11_3, plan11_4, plan11_5, plan11_10, plan11_12, plan11_13, plan11_31, plan11_49, plan11_58, plan11_64, eqt29, eqt56, eqt63, g4, g9, g10, g11, g12, g13, g14, g182, g183, g184, hk', hvb.ltn, hvt.ltn, l1, l2, l3, l4, l5, hvt.len, List.length_map, b3, b4, b5, e3, e4, c3, c4, c5, Tch.av, d1, e1, e2, f31, hadZ, hj1]
      exact hih _ _ (by rfl) (by rfl) (by rfl) (by rfl) (by rfl) (by rfl) (by rfl) (by rfl) (by rfl) (by rfl)

end Go.Ab
/-
  SettleMore: what is compared, walked.
-/
namespace Go.Ab
open Go.Proofs
set_option linter.unusedSimpArgs false
set_option linter.unusedVariables false
set_option maxRecDepth 100000

variable {H : Heap} {vb vt : AV}

theorem same_int (n : Int) : AV.same (I n) (I n) = true := by simp [AV.same]

theorem More_l62 (s : Stl) (hvt : SlOk H 4 vt (s.ts.map Tch.av)) (hl : s.ts.length ≤ 100) (W : Heap) (hW : W.take H.length = H) (hW0 : W[H.length]? = some (.box (.agg [vb, I s.near, I s.last, vt]))) (v22 : AV) (h22 : SlOk W 4 v22 (s.ts.map Tch.av)) (ht : SlOk W 4 vt (s.ts.map Tch.av)) :
    ∀ (q j : Nat), j + q = s.ts.length → ∀ E : Env, E.get 4 = .ptr H.length 0 → E.get 22 = v22 → E.get 445 = I s.ts.length → E.get 446 = I j →
    Option.map (finishC H.length) (execL cfg0 prog0 ⟨11, none, false, H.length⟩ (todoAt Try.f11 62) ⟨E, [], W, none⟩) = some ⟨.ret (.bool true), H, none⟩ := by
  intro q
  induction q with
  | zero =>
    intro j hj E g4 g22 g445 g446
    have hk' : ¬ (j : Int) < s.ts.length := by omega
    simp only [loopIt, todoPast, todoAt, todoOf, firstReg, ↓reduceIte, Option.some.injEq, Nat.reduceEqDiff, reduceCtorEq, Try.f11]
    rw [execL_inLoop]
    simp only [go_sem, ↓reduceIte, Nat.reduceEqDiff, Nat.reduceAdd, Nat.reduceLeDiff, Nat.reduceBEq, Nat.reduceMul, Nat.reduceLT, Int.reduceLT, Int.reduceLE, Int.reduceToNat, Int.reduceNeg, Int.reduceEq, Int.reduceMul, reduceCtorEq, Int.reduceBEq, Int.reduceBNe, Int.reduceAdd, Int.reduceSub, bne_self_eq_false, beq_self_eq_true, Nat.le_add_right, eqOk, fn11, res11, gc11_0, gc11_1, gc11_2, gc11_3, gc11_4, gc11_5, gc11_6, gc11_7, gc11_8, gc11_9, gc11_10, gc11_11, gc11_12, gc11_13, gc11_14, gc11_15, gc11_16, gc11_17, gc11_18, gc11_19, gc11_20, gc11_21, gc11_22, gc11_23, gc11_24, gc11_25, gc11_26, gc11_27, gc11_28, gc11_29, gc11_30, gc11_31, gc11_32, gc11_33, gc11_34, gc11_35, gc11_36, gc11_37, gc11_38, gc11_39, gc11_40, gc11_41, gc11_42, gc11_43, gc11_44, gc11_45, gc11_46, gc11_47, gc11_48, gc11_49, gc11_50, gc11_51, gc11_52, gc11_53, gc11_54, gc11_55, gc11_56, gc11_57, gc11_58, gc11_59, gc11_60, gc11_61, gc11_62, gc11_63, gc11_64, gc11_65, gc11_66, gc11_67, gcSt, keepEnv, envLt, heapLt, dfrLt, ADefer.lt, grow11_8, grow11_9, grow11_10, grow11_11, grow11_12, grow11_13, grow11_14, grow11_15, grow11_17, grow11_18, grow11_19, grow11_20, grow11_21, grow11_22, grow11_23, grow11_24, grow11_25, grow11_26, grow11_27, grow11_28, grow11_29, grow11_30, grow11_31, grow11_32, grow11_33, grow11_34, grow11_35, grow11_36, grow11_37, grow11_38, grow11_39, grow11_40, grow11_41, grow11_42, grow11_43, grow11_44, grow11_45, grow11_46, grow11_79, grow11_80, grow11_86, grow11_95, grow11_131, grow11_144, grow11_153, grow11_154, grow11_155, grow11_156, grow11_173, grow11_179, grow11_208, grow11_218, grow11_224, ty3, ty5, ty22, ty23, ty25, ty29, ty30, ty38, ty56, ty63, plan11_3, plan11_4, plan11_5, plan11_10, plan11_12, plan11_13, plan11_31, plan11_49, plan11_58, plan11_64, eqt29, eqt56, eqt63, g4, g22, g445, g446, hk', f13, hW]
  | succ q ih =>
    intro j hj E g4 g22 g445 g446
    have hk' : (j : Int) < s.ts.length := by omega
    have hk2 : j < s.ts.length := by omega
    obtain ⟨a1, a2, a3, a4, a5⟩ := h22.at (k := (j : Int)) (x := Tch.av s.ts[j]) (by omega) (by simp [hk2])
    obtain ⟨b1, b2, b3, b4, b5⟩ := ht.at (k := (j : Int)) (x := Tch.av s.ts[j]) (by omega) (by simp [hk2])
    have hj1 : IntKind.i64.wrap ((j : Int) + 1) = ((j + 1 : Nat) : Int) := by rw [w64 (by omega) (by omega)]; omega
    simp only [loopIt, todoPast, todoAt, todoOf, firstReg, ↓reduceIte, Option.some.injEq, Nat.reduceEqDiff, reduceCtorEq, Try.f11]
    rw [execL_inLoop]
    simp only [go_sem, ↓reduceIte, Nat.reduceEqDiff, Nat.reduceAdd, Nat.reduceLeDiff, Nat.reduceBEq, Nat.reduceMul, Nat.reduceLT, Int.reduceLT, Int.reduceLE, Int.reduceToNat, Int.reduceNeg, Int.reduceEq, Int.reduceMul, reduceCtorEq, Int.reduceBEq, Int.reduceBNe, Int.reduceAdd, Int.reduceSub, bne_self_eq_false, beq_self_eq_true, Nat.le_add_right, eqOk, fn11, res11, gc11_0, gc11_1, gc11_2, gc11_3, gc11_4, gc11_5, gc11_6, gc11_7, gc11_8, gc11_9, gc11_10, gc11_11, gc11_12, gc11_13, gc11_14, gc11_15, gc11_16, gc11_17, gc11_18, gc11_19, gc11_20, gc11_21, gc11_22, gc11_23, gc11_24, gc11_25, gc11_26, gc11_27, gc11_28, gc11_29, gc11_30, gc11_31, gc11_32, gc11_33, gc11_34, gc11_35, gc11_36, gc11_37, gc11_38, gc11_39, gc11_40, gc11_41, gc11_42, gc11_43, gc11_44, gc11_45, gc11_46, gc11_47, gc11_48, gc11_49, gc11_50, gc11_51, gc11_52, gc11_53, gc11_54, gc11_55, gc11_56, gc11_57, gc11_58, gc11_59, gc11_60, gc11_61, gc11_62, gc11_63, gc11_64, gc11_65, gc11_66, gc11_67, gcSt, keepEnv, envLt, heapLt, dfrLt, ADefer.lt, grow11_8, grow11_9, grow11_10, grow11_11, grow11_12, grow11_13, grow11_14, grow11_15, grow11_17, grow11_18, grow11_19, grow11_20, grow11_21, grow11_22, grow11_23, grow11_24, grow11_25, grow11_26, grow11_27, grow11_28, grow11_29, grow11_30, grow11_31, grow11_32, grow11_33, grow11_34, grow11_35, grow11_36, grow11_37, grow11_38, grow11_39, grow11_40, grow11_41, grow11_42, grow11_43, grow11_44, grow11_45, grow11_46, grow11_79, grow11_80, grow11_86, grow11_95, grow11_131, grow11_144, grow11_153, grow11_154, grow11_155, grow11_156, grow11_173, grow11_179, grow11_208, grow11_218, grow11_224, ty3, ty5, ty22, ty23, ty25, ty29, ty30, ty38, ty56, ty63, plan11_3, plan11_4, plan11_5, plan11_10, plan11_12, plan11_13, plan11_31, plan11_49, plan11_58, plan11_64, eqt29, eqt56, eqt63, g4, g22, g445, g446, hk']
    rw [chkK_of]; rotate_left; kernel_rfl
    simp only [go_sem, ↓reduceIte, Nat.reduceEqDiff, Nat.reduceAdd, Nat.reduceLeDiff, Nat.reduceBEq, Nat.reduceMul, Nat.reduceLT, Int.reduceLT, Int.reduceLE, Int.reduceToNat, Int.reduceNeg, Int.reduceEq, Int.reduceMul, reduceCtorEq, Int.reduceBEq, Int.reduceBNe, Int.reduceAdd, Int.reduceSub, bne_self_eq_false, beq_self_eq_true, Nat.le_add_right, eqOk, fn11, res11, gc11_0, gc11_1, gc11_2, gc11_3, gc11_4, gc11_5, gc11_6, gc11_7, gc11_8, gc11_9, gc11_10, gc11_11, gc11_12, gc11_13, gc11_14, gc11_15, gc11_16, gc11_17, gc11_18, gc11_19, gc11_20, gc11_21, gc11_22, gc11_23, gc11_24, gc11_25, gc11_26, gc11_27, gc11_28, gc11_29, gc11_30, gc11_31, gc11_32, gc11_33, gc11_34, gc11_35, gc11_36, gc11_37, gc11_38, gc11_39, gc11_40, gc11_41, gc11_42, gc11_43, gc11_44, gc11_45, gc11_46, gc11_47, gc11_48, gc11_49, gc11_50, gc11_51, gc11_52, gc11_53, gc11_54, gc11_55, gc11_56, gc11_57, gc11_58, gc11_59, gc11_60, gc11_61, gc11_62, gc11_63, gc11_64, gc11_65, gc11_66, gc11_67, gcSt, keepEnv, envLt, heapLt, dfrLt, ADefer.lt, grow11_8, grow11_9, grow11_10, grow11_11, grow11_12, grow11_13, grow11_14, grow11_15, grow11_17, grow11_18, grow11_19, grow11_20, grow11_21, grow11_22, grow11_23, grow11_24, grow11_25, grow11_26, grow11_27, grow11_28, grow11_29, grow11_30, grow11_31, grow11_32, grow11_33, grow11_34, grow11_35, grow11_36, grow11_37, grow11_38, grow11_39, grow11_40, grow11_41, grow11_42, grow11_43, grow11_44, grow11_45, grow11_46, grow11_79, grow11_80, grow11_86, grow11_95, grow11_131, grow11_144, grow11_153, grow11_154, grow11_155, grow11_156, grow11_173, grow11_179, grow11_208, grow11_218, grow11_224, ty3, ty5, ty22, ty23, ty25, ty29, ty30, ty38, ty56, ty63, plan11_3, plan11_4, plan11_5, plan11_10, plan11_12, plan11_13, plan11_31, plan11_49, plan11_58, plan11_64, eqt29, eqt56, eqt63, g4, g22, g445, g446, hW0, a1, a2, a3, b1, b2, b3, Tch.av, sameL, same_int, hj1]
    exact ih (j + 1) (by omega) _ (by exact g4) (by exact g22) (by exact g445) (by rfl)

theorem More_l56 (s : Stl) (hvb : SlOk H 6 vb (s.bs.map Blk.av)) (hvt : SlOk H 4 vt (s.ts.map Tch.av)) (hl0 : s.bs.length ≤ 100) (hl : s.ts.length ≤ 100) (W : Heap) (hW : W.take H.length = H) (hW0 : W[H.length]? = some (.box (.agg [vb, I s.near, I s.last, vt]))) (v21 v22 : AV) (h21 : SlOk W 6 v21 (s.bs.map Blk.av)) (hb : SlOk W 6 vb (s.bs.map Blk.av)) (h22 : SlOk W 4 v22 (s.ts.map Tch.av)) (ht : SlOk W 4 vt (s.ts.map Tch.av)) :
    ∀ (q j : Nat), j + q = s.bs.length → ∀ E : Env, E.get 4 = .ptr H.length 0 → E.get 21 = v21 → E.get 22 = v22 → E.get 429 = I s.bs.length → E.get 430 = I j →
    Option.map (finishC H.length) (execL cfg0 prog0 ⟨11, none, false, H.length⟩ (todoAt Try.f11 56) ⟨E, [], W, none⟩) = some ⟨.ret (.bool true), H, none⟩ := by
  intro q
  induction q with
  | zero =>
    intro j hj E g4 g21 g22 g429 g430
    have hk' : ¬ (j : Int) < s.bs.length := by omega
    simp only [loopIt, todoPast, todoAt, todoOf, firstReg, ↓reduceIte, Option.some.injEq, Nat.reduceEqDiff, reduceCtorEq, Try.f11]
    rw [execL_inLoop]
    simp only [go_sem, ↓reduceIte, Nat.reduceEqDiff, Nat.reduceAdd, Nat.reduceLeDiff, Nat.reduceBEq, Nat.reduceMul, Nat.reduceLT, Int.reduceLT, Int.reduceLE, Int.reduceToNat, Int.reduceNeg, Int.reduceEq, Int.reduceMul, reduceCtorEq, Int.reduceBEq, Int.reduceBNe, Int.reduceAdd, Int.reduceSub, bne_self_eq_false, beq_self_eq_true, Nat.le_add_right, eqOk, fn11, res11, gc11_0, gc11_1, gc11_2, gc11_3, gc11_4, gc11_5, gc11_6, gc11_7, gc11_8, gc11_9, gc11_10, gc11_11, gc11_12, gc11_13, gc11_14, gc11_15, gc11_16, gc11_17, gc11_18, gc11_19, gc11_20, gc11_21, gc11_22, gc11_23, gc11_24, gc11_25, gc11_26, gc11_27, gc11_28, gc11_29, gc11_30, gc11_31, gc11_32, gc11_33, gc11_34, gc11_35, gc11_36, gc11_37, gc11_38, gc11_39, gc11_40, gc11_41, gc11_42, gc11_43, gc11_44, gc11_45, gc11_46, gc11_47, gc11_48, gc11_49, gc11_50, gc11_51, gc11_52, gc11_53, gc11_54, gc11_55, gc11_56, gc11_57, gc11_58, gc11_59, gc11_60, gc11_61, gc11_62, gc11_63, gc11_64, gc11_65, gc11_66, gc11_67, gcSt, keepEnv, envLt, heapLt, dfrLt, ADefer.lt, grow11_8, grow11_9, grow11_10, grow11_11, grow11_12, grow11_13, grow11_14, grow11_15, grow11_17, grow11_18, grow11_19, grow11_20, grow11_21, grow11_22, grow11_23, grow11_24, grow11_25, grow11_26, grow11_27, grow11_28, grow11_29, grow11_30, grow11_31, grow11_32, grow11_33, grow11_34, grow11_35, grow11_36, grow11_37, grow11_38, grow11_39, grow11_40, grow11_41, grow11_42, grow11_43, grow11_44, grow11_45, grow11_46, grow11_79, grow11_80, grow11_86, grow11_95, grow11_131, grow11_144, grow11_153, grow11_154, grow11_155, grow11_156, grow11_173, grow11_179, grow11_208, grow11_218, grow11_224, ty3, ty5, ty22, ty23, ty25, ty29, ty30, ty38, ty56, ty63, plan11_3, plan11_4, plan11_5, plan11_10, plan11_12, plan11_13, plan11_31, plan11_49, plan11_58, plan11_64, eqt29, eqt56, eqt63, g4, g21, g22, g429, g430, hk', h22.len, List.length_map]
    exact More_l62 s hvt hl W hW hW0 v22 h22 ht s.ts.length 0 (by omega) _ (by exact g4) (by exact g22) (by rfl) (by rfl)
  | succ q ih =>
    intro j hj E g4 g21 g22 g429 g430
    have hk' : (j : Int) < s.bs.length := by omega
    have hk2 : j < s.bs.length := by omega
    obtain ⟨a1, a2, a3, a4, a5⟩ := h21.at (k := (j : Int)) (x := Blk.av s.bs[j]) (by omega) (by simp [hk2])
    obtain ⟨b1, b2, b3, b4, b5⟩ := hb.at (k := (j : Int)) (x := Blk.av s.bs[j]) (by omega) (by simp [hk2])
    have hj1 : IntKind.i64.wrap ((j : Int) + 1) = ((j + 1 : Nat) : Int) := by rw [w64 (by omega) (by omega)]; omega
    simp only [loopIt, todoPast, todoAt, todoOf, firstReg, ↓reduceIte, Option.some.injEq, Nat.reduceEqDiff, reduceCtorEq, Try.f11]
    rw [execL_inLoop]
    simp only [go_sem, ↓reduceIte, Nat.reduceEqDiff, Nat.reduceAdd, Nat.reduceLeDiff, Nat.reduceBEq, Nat.reduceMul, Nat.reduceLT, Int.reduceLT, Int.reduceLE, Int.reduceToNat, Int.reduceNeg, Int.reduceEq, Int.reduceMul, reduceCtorEq, Int.reduceBEq, Int.reduceBNe, Int.reduceAdd, Int.reduceSub, bne_self_eq_false, beq_self_eq_true, Nat.le_add_right, eqOk, fn11, res11, gc11_0, gc11_1, gc11_2, gc11_3, gc11_4, gc11_5, gc11_6, gc11_7, gc11_8, gc11_9, gc11_10, gc11_11, gc11_12, gc11_13, gc11_14, gc11_15, gc11_16, gc11_17, gc11_18, gc11_19, gc11_20, gc11_21, gc11_22, gc11_23, gc11_24, gc11_25, gc11_26, gc11_27, gc11_28, gc11_29, gc11_30, gc11_31, gc11_32, gc11_33, gc11_34, gc11_35, gc11_36, gc11_37, gc11_38, gc11_39, gc11_40, gc11_41, gc11_42, gc11_43, gc11_44, gc11_45, gc11_46, gc11_47, gc11_48, gc11_49, gc11_50, gc11_51, gc11_52, gc11_53, gc11_54, gc11_55, gc11_56, gc11_57, gc11_58, gc11_59, gc11_60, gc11_61, gc11_62, gc11_63, gc11_64, gc11_65, gc11_66, gc11_67, gcSt, keepEnv, envLt, heapLt, dfrLt, ADefer.lt, grow11_8, grow11_9, grow11_10, grow11_11, grow11_12, grow11_13, grow11_14, grow11_15, grow11_17, grow11_18, grow11_19, grow11_20, grow11_21, grow11_22, grow11_23, grow11_24, grow11_25, grow11_26, grow11_27, grow11_28, grow11_29, grow11_30, grow11_31, grow11_32, grow11_33, grow11_34, grow11_35, grow11_36, grow11_37, grow11_38, grow11_39, grow11_40, grow11_41, grow11_42, grow11_43, grow11_44, grow11_45, grow11_46, grow11_79, grow11_80, grow11_86, grow11_95, grow11_131, grow11_144, grow11_153, grow11_154, grow11_155, grow11_156, grow11_173, grow11_179, grow11_208, grow11_218, grow11_224, ty3, ty5, ty22, ty23, ty25, ty29, ty30, ty38, ty56, ty63, plan11_3, plan11_4, plan11_5, plan11_10, plan11_12, plan11_13, plan11_31, plan11_49, plan11_58, plan11_64, eqt29, eqt56, eqt63, g4, g21, g22, g429, g430, hk']
    rw [chkK_of]; rotate_left; kernel_rfl
    simp only [go_sem, ↓reduceIte, Nat.reduceEqDiff, Nat.reduceAdd, Nat.reduceLeDiff, Nat.reduceBEq, Nat.reduceMul, Nat.reduceLT, Int.reduceLT, Int.reduceLE, Int.reduceToNat, Int.reduceNeg, Int.reduceEq, Int.reduceMul, reduceCtorEq, Int.reduceBEq, Int.reduceBNe, Int.reduceAdd, Int.reduceSub, bne_self_eq_false, beq_self_eq_true, Nat.le_add_right, eqOk, fn11, res11, gc11_0, gc11_1, gc11_2, gc11_3, gc11_4, gc11_5, gc11_6, gc11_7, gc11_8, gc11_9, gc11_10, gc11_11, gc11_12, gc11_13, gc11_14, gc11_15, gc11_16, gc11_17, gc11_18, gc11_19, gc11_20, gc11_21, gc11_22, gc11_23, gc11_24, gc11_25, gc11_26, gc11_27, gc11_28, gc11_29, gc11_30, gc11_31, gc11_32, gc11_33, gc11_34, gc11_35, gc11_36, gc11_37, gc11_38, gc11_39, gc11_40, gc11_41, gc11_42, gc11_43, gc11_44, gc11_45, gc11_46, gc11_47, gc11_48, gc11_49, gc11_50, gc11_51, gc11_52, gc11_53, gc11_54, gc11_55, gc11_56, gc11_57, gc11_58, gc11_59, gc11_60, gc11_61, gc11_62, gc11_63, gc11_64, gc11_65, gc11_66, gc11_67, gcSt, keepEnv, envLt, heapLt, dfrLt, ADefer.lt, grow11_8, grow11_9, grow11_10, grow11_11, grow11_12, grow11_13, grow11_14, grow11_15, grow11_17, grow11_18, grow11_19, grow11_20, grow11_21, grow11_22, grow11_23, grow11_24, grow11_25, grow11_26, grow11_27, grow11_28, grow11_29, grow11_30, grow11_31, grow11_32, grow11_33, grow11_34, grow11_35, grow11_36, grow11_37, grow11_38, grow11_39, grow11_40, grow11_41, grow11_42, grow11_43, grow11_44, grow11_45, grow11_46, grow11_79, grow11_80, grow11_86, grow11_95, grow11_131, grow11_144, grow11_153, grow11_154, grow11_155, grow11_156, grow11_173, grow11_179, grow11_208, grow11_218, grow11_224, ty3, ty5, ty22, ty23, ty25, ty29, ty30, ty38, ty56, ty63, plan11_3, plan11_4, plan11_5, plan11_10, plan11_12, plan11_13, plan11_31, plan11_49, plan11_58, plan11_64, eqt29, eqt56, eqt63, g4, g21, g22, g429, g430, hW0, a1, a2, a3, b1, b2, b3, Blk.av, sameL, same_int, hj1]
    exact ih (j + 1) (by omega) _ (by exact g4) (by exact g21) (by exact g22) (by exact g429) (by rfl)

/-- Always, perhaps, or never. -/
def knd (s : Stl) (b : Int) (m : Nat) : Int := if settl s b (s.blk b) m then 2 else if someS s b (s.blk b) m then 1 else 0
def wh (s : Stl) (b : Int) : Int × Int := match whenR s b (s.blk b) with | some w => (w, 0) | none => (0, 4)

theorem at_excess (s : Stl) (hv : s.valid = true) (hvb : SlOk H 6 vb (s.bs.map Blk.av)) (hvt : SlOk H 4 vt (s.ts.map Tch.av)) (b : Int) (m : Nat) (hb : 0 ≤ b ∧ b < s.bs.length) (hm : (m : Int) ≤ s.last) :
    callFL cfg0 prog0 false 14 [.agg [vb, I s.near, I s.last, vt], I b, I m] H none = some ⟨.ret (.tup [.agg [I (warmLo s b (s.blk b) m), I (warmHi s b (s.blk b) m)], I 0]), H, none⟩ := by
  have hn := valid_nums hv
  have h := f14 (H := H) s hvb hvt (by omega) (by omega) b m
  simp only [Stl.excess, hv, inB_of hb, inM_of (s := s) (m := (m : Int)) (by omega), Bool.and_self, if_true, Int.toNat_natCast] at h
  exact h

theorem at_settled (s : Stl) (hv : s.valid = true) (hvb : SlOk H 6 vb (s.bs.map Blk.av)) (hvt : SlOk H 4 vt (s.ts.map Tch.av)) (b : Int) (m : Nat) (hb : 0 ≤ b ∧ b < s.bs.length) (hm : (m : Int) ≤ s.last) :
    callFL cfg0 prog0 false 18 [.agg [vb, I s.near, I s.last, vt], I b, I m] H none = some ⟨.ret (.tup [I (knd s b m), I 0]), H, none⟩ := by
  have hn := valid_nums hv
  have h := f18 (H := H) s hvb hvt (by omega) (by omega) b m
  simp only [Stl.settled, hv, inB_of hb, inM_of (s := s) (m := (m : Int)) (by omega), Bool.and_self, if_true, Int.toNat_natCast] at h
  exact h

theorem at_when (s : Stl) (hv : s.valid = true) (hvb : SlOk H 6 vb (s.bs.map Blk.av)) (hvt : SlOk H 4 vt (s.ts.map Tch.av)) (b : Int) (hb : 0 ≤ b ∧ b < s.bs.length) :
    callFL cfg0 prog0 false 20 [.agg [vb, I s.near, I s.last, vt], I b] H none = some ⟨.ret (.tup [I (wh s b).1, I (wh s b).2]), H, none⟩ := by
  have hn := valid_nums hv
  have h := f20 (H := H) s hvb hvt (by omega) (by omega) b
  simp only [Stl.when, hv, inB_of hb, if_true] at h
  exact h

theorem at_rests (s : Stl) (hv : s.valid = true) (hvb : SlOk H 6 vb (s.bs.map Blk.av)) (hvt : SlOk H 4 vt (s.ts.map Tch.av)) (b : Int) (hb : 0 ≤ b ∧ b < s.bs.length) :
    callFL cfg0 prog0 false 24 [.agg [vb, I s.near, I s.last, vt], I b] H none = some ⟨.ret (.tup [.sl false ((s.restsL b).map spA), I 0]), H, none⟩ := by
  have hn := valid_nums hv
  have h := f24 (H := H) s hvb hvt (by omega) (by omega) b
  simp only [hv, inB_of hb, if_true] at h
  exact h

theorem knd_nar {s x : Stl} {b : Int} (h : Nar s x b) (hs : (s.blk b).Ok) (hx : (x.blk b).Ok) (ht : ∀ t ∈ x.ts, t.h0 ≤ t.h1) (m : Nat) : knd s b m = 1 ∨ knd x b m = knd s b m := by
  simp only [knd]
  rcases Bool.eq_false_or_eq_true (settl s b (s.blk b) m) with h1 | h1
  · rw [h1, h.settl hs hx m h1]; exact .inr rfl
  · rcases Bool.eq_false_or_eq_true (someS s b (s.blk b) m) with h2 | h2
    · rw [h1, h2]; exact .inl rfl
    · have g2 : someS x b (x.blk b) m = false := by
        rcases Bool.eq_false_or_eq_true (someS x b (x.blk b) m) with g | g
        · rw [h.some hs hx m g] at h2; cases h2
        · exact g
      have g1 : settl x b (x.blk b) m = false := by
        rcases Bool.eq_false_or_eq_true (settl x b (x.blk b) m) with g | g
        · rw [settl_some ht hx m g] at g2; cases g2
        · exact g
      rw [h1, h2, g1, g2]; exact .inr rfl

theorem knd_near {s : Stl} {n : Int} (h : s.near ≤ n) (b : Int) (m : Nat) : knd s b m ≤ knd { s with near := n } b m := by
  have hb : ({ s with near := n } : Stl).blk b = s.blk b := rfl
  simp only [knd, hb]
  rcases Bool.eq_false_or_eq_true (settl s b (s.blk b) m) with h1 | h1
  · rw [h1, near_settl h b _ m h1]; exact Int.le_refl _
  · rcases Bool.eq_false_or_eq_true (someS s b (s.blk b) m) with h2 | h2
    · rw [h1, h2, near_some h b _ m h2]
      simp only [Bool.false_eq_true, if_false, if_true]
      split <;> omega
    · rw [h1, h2]
      simp only [Bool.false_eq_true, if_false]
      repeat' split
      all_goals omega

theorem neg_valid {s : Stl} (hv : s.valid = true) : s.neg.valid = true := by
  have hwf := Stl.valid_wf hv
  simp only [Stl.valid, Stl.nums, Bool.and_eq_true] at hv ⊢
  have hbl : s.neg.bs.length = s.bs.length := by simp [Stl.neg]
  have htl : s.neg.ts.length = s.ts.length := by simp [Stl.neg]
  rw [hbl, htl]
  refine ⟨hv.1, ?_, ?_⟩
  · rw [List.all_eq_true]
    intro x hx
    simp only [Stl.neg, List.mem_map] at hx
    obtain ⟨c, hc, rfl⟩ := hx
    have hbo := hwf.bs c hc
    simp only [Blk.okb, Bool.and_eq_true]
    exact ⟨spn_true (by have := hbo.a3; show -100 ≤ -c.x1; omega) (by have := hbo.a2; show -c.x1 ≤ -c.x0; omega) (by have := hbo.a1; show -c.x0 ≤ 100; omega), spn_true hbo.a4 hbo.a5 hbo.a6, spn_true hbo.a7 hbo.a8 hbo.a9⟩
  · rw [List.all_eq_true]
    intro x hx
    simp only [Stl.neg, List.mem_map] at hx
    obtain ⟨t, ht, rfl⟩ := hx
    have h := List.all_eq_true.1 hv.2.2 t ht
    have ht2 := hwf.ts t ht
    simp only [Tch.okb, Bool.and_eq_true] at h ⊢
    exact ⟨h.1, h.2.1, spn_true (by show -100 ≤ -t.h1; omega) (by show -t.h1 ≤ -t.h0; omega) (by show -t.h0 ≤ 100; omega)⟩

theorem part_valid {s : Stl} (hv : s.valid = true) (b : Int) : (s.part b).valid = true := by
  have hn := valid_nums hv
  simp only [Stl.valid, Stl.nums, Bool.and_eq_true, decide_eq_true_eq] at hv ⊢
  have hlen : (s.part b).ts.length ≤ s.ts.length := by
    simp only [Stl.part]
    exact Nat.le_trans (List.length_filter_le _ _) (by simp)
  refine ⟨⟨hv.1.1, hv.1.2.1, hv.1.2.2.1, by omega⟩, hv.2.1, ?_⟩
  rw [List.all_eq_true]
  intro x hx
  simp only [Stl.part, List.mem_filter, List.mem_reverse] at hx
  exact List.all_eq_true.1 hv.2.2 x hx.1

theorem near_valid {s : Stl} (hv : s.valid = true) {n : Int} (h : 0 ≤ n ∧ n ≤ 20) : ({ s with near := n } : Stl).valid = true := by
  simp only [Stl.valid, Stl.nums, Bool.and_eq_true] at hv ⊢
  refine ⟨⟨hv.1.1, ?_, hv.1.2.2⟩, hv.2⟩
  show (decide (0 ≤ n) && decide (n ≤ 20)) = true
  simp only [Bool.and_eq_true, decide_eq_true_eq]; exact h

theorem More_tail (s X : Stl) (hv : s.valid = true) (hXv : X.valid = true) (hvb : SlOk H 6 vb (s.bs.map Blk.av)) (hvt : SlOk H 4 vt (s.ts.map Tch.av)) (near : Int) (hnr : s.near ≤ near ∧ near ≤ 20) (b : Int) (hb : 0 ≤ b ∧ b < s.bs.length) (m : Nat) (hm : (m : Int) ≤ s.last) (hN : Nar s X b) (hXb : X.bs.length = s.bs.length) (hXt : X.ts.length = s.ts.length) :
    ∀ E : Env, E.get 4 = .ptr H.length 0 → E.get 9 = I b → E.get 10 = I m → E.get 11 = .ptr (H.length + 1) 0 → E.get 12 = .ptr (H.length + 2) 0 → E.get 13 = .ptr (H.length + 3) 0 → E.get 14 = .ptr (H.length + 4) 0 →
      Option.map (finishC H.length) (execL cfg0 prog0 ⟨11, none, false, H.length⟩ (todoPast Try.f11 23) ⟨E, [], H ++ moreH vb vt s X near H.length (s.bs.map Blk.neg) (s.ts.map Tch.neg) (s.ts.reverse.filter fun t => t.b == b) s.bs.length s.ts.length (s.ts.reverse.filter fun t => t.b == b).length, none⟩) = some ⟨.ret (.bool true), H, none⟩ := by
  intro E g4 g9 g10 g11 g12 g13 g14
  have hn := valid_nums hv
  have hwf := Stl.valid_wf hv
  have hXw := Stl.valid_wf hXv
  obtain ⟨h0, hbk⟩ := Stl.inB_blk (inB_of (s := s) hb)
  have hbX : 0 ≤ b ∧ b < X.bs.length := by omega
  obtain ⟨-, hbkX⟩ := Stl.inB_blk (inB_of (s := X) hbX)
  have hbo := hwf.bs (s.blk b) (List.mem_of_getElem? hbk)
  have hboX := hXw.bs (X.blk b) (List.mem_of_getElem? hbkX)
  have hmem : ∀ (f : Blk → Nat) (l : List Blk), ∀ x ∈ l.map Blk.av, x.cells.length = 6 := by
    intro _ l; simp only [List.mem_map]; rintro _ ⟨t, _, rfl⟩; rfl
  have hmet : ∀ l : List Tch, ∀ x ∈ l.map Tch.av, x.cells.length = 4 := by
    intro l; simp only [List.mem_map]; rintro _ ⟨t, _, rfl⟩; rfl
  obtain ⟨M, hM⟩ : ∃ M, M = moreH vb vt s X near H.length (s.bs.map Blk.neg) (s.ts.map Tch.neg) (s.ts.reverse.filter fun t => t.b == b) s.bs.length s.ts.length (s.ts.reverse.filter fun t => t.b == b).length := ⟨_, rfl⟩
  -- the slices, as they lie
  have xb : ∀ G, SlOk (H ++ (M ++ G)) 6 (.gsl (H.length + 5) s.bs.length) (X.bs.map Blk.av) := fun G => ⟨⟨by rw [get_at' 5, hM]; rfl, by simp [hXb]⟩, hmem (fun _ => 0) _⟩
  have xt : ∀ G, SlOk (H ++ (M ++ G)) 4 (.gsl (H.length + 6) s.ts.length) (X.ts.map Tch.av) := fun G => ⟨⟨by rw [get_at' 6, hM]; rfl, by simp [hXt]⟩, hmet _⟩
  have zb : ∀ G, SlOk (H ++ (M ++ G)) 6 (.gsl (H.length + 7) s.bs.length) (s.neg.bs.map Blk.av) := fun G => ⟨⟨by rw [get_at' 7, hM]; rfl, by simp [Stl.neg]⟩, hmem (fun _ => 0) _⟩
  have zt : ∀ G, SlOk (H ++ (M ++ G)) 4 (.gsl (H.length + 8) s.ts.length) (s.neg.ts.map Tch.av) := fun G => ⟨⟨by rw [get_at' 8, hM]; rfl, by simp [Stl.neg]⟩, hmet _⟩
  have tt : ∀ G, SlOk (H ++ (M ++ G)) 4 (.gsl (H.length + 9) (s.ts.reverse.filter fun t => t.b == b).length) ((s.part b).ts.map Tch.av) := fun G => ⟨⟨by rw [get_at' 9, hM]; rfl, by simp [Stl.part]⟩, hmet _⟩
  -- what is told
  have A1 := fun G => at_excess (H := H ++ (M ++ G)) s hv (hvb.app _) (hvt.app _) b m hb hm
  have A2 := fun G => at_settled (H := H ++ (M ++ G)) s hv (hvb.app _) (hvt.app _) b m hb hm
  have A3 := fun G => at_when (H := H ++ (M ++ G)) s hv (hvb.app _) (hvt.app _) b hb
  have A4 := fun G => at_rests (H := H ++ (M ++ G)) s hv (hvb.app _) (hvt.app _) b hb
  have B1 := fun G => at_excess (H := H ++ (M ++ G)) X hXv (xb G) (xt G) b m hbX (by rw [hN.last]; exact hm)
  have B2 := fun G => at_settled (H := H ++ (M ++ G)) X hXv (xb G) (xt G) b m hbX (by rw [hN.last]; exact hm)
  have C2 := fun G => at_settled (H := H ++ (M ++ G)) { s with near := near } (near_valid hv (by omega)) (hvb.app _) (hvt.app _) b m hb hm
  have C3 := fun G => at_when (H := H ++ (M ++ G)) { s with near := near } (near_valid hv (by omega)) (hvb.app _) (hvt.app _) b hb
  have hbn : s.neg.bs.length = s.bs.length := by simp [Stl.neg]
  have D1 := fun G => at_excess (H := H ++ (M ++ G)) s.neg (neg_valid hv) (zb G) (zt G) b m (by rw [hbn]; exact hb) hm
  have D3 := fun G => at_when (H := H ++ (M ++ G)) s.neg (neg_valid hv) (zb G) (zt G) b (by rw [hbn]; exact hb)
  have D4 := fun G => at_rests (H := H ++ (M ++ G)) s.neg (neg_valid hv) (zb G) (zt G) b (by rw [hbn]; exact hb)
  have E1 := fun G => at_excess (H := H ++ (M ++ G)) (s.part b) (part_valid hv b) (hvb.app _) (tt G) b m hb hm
  have E3 := fun G => at_when (H := H ++ (M ++ G)) (s.part b) (part_valid hv b) (hvb.app _) (tt G) b hb
  -- how they compare
  obtain ⟨n1, n2⟩ := hN.warm hbo hboX m
  have n3 := knd_nar hN hbo hboX (fun t ht => (hXw.ts t ht).2.1) m
  have n4 := knd_near hnr.1 b m
  obtain ⟨n5, n6⟩ := neg_warm hb (by have := hbo.a4; omega) m
  have n7 : wh s.neg b = wh s b := by simp only [wh]; rw [when_of_settl (s := s) (x := s.neg) (b := b) (p := s.blk b) (q := s.neg.blk b) rfl (neg_settl hb (by have := hbo.a4; omega))]
  have n8 : s.neg.restsL b = s.restsL b := by simp only [Stl.restsL, neg_settl hb (by have := hbo.a4; omega)]; rfl
  obtain ⟨n9, n10⟩ := part_warm s b (s.blk b) m
  have n11 : wh (s.part b) b = wh s b := by simp only [wh]; rw [show (s.part b).blk b = s.blk b from rfl, when_of_settl (s := s) (x := s.part b) (b := b) (p := s.blk b) (q := s.blk b) rfl (part_settl s b (s.blk b))]
  have hpb : (s.part b).blk b = s.blk b := rfl
  have n12 : ¬ (wh s b).2 = 0 ∨ ((wh { s with near := near } b).2 = 0 ∧ (wh { s with near := near } b).1 ≤ (wh s b).1) := by
    have hyb : ({ s with near := near } : Stl).blk b = s.blk b := rfl
    cases hw : whenR s b (s.blk b) with
    | none => exact .inl (by simp [wh, hw])
    | some w =>
      obtain ⟨w', h1, h2⟩ := near_when hnr.1 b (s.blk b) (by omega) hw
      refine .inr ?_
      simp only [wh, hyb, h1, hw]
      exact ⟨trivial, h2⟩
  rw [n5, n6] at D1
  rw [n7] at D3
  rw [n8] at D4
  rw [hpb, n9, n10] at E1
  rw [n11] at E3
  obtain ⟨w1, w2⟩ := warm_bd hwf hbk (m := m) (by omega)
  have hlen : (s.restsL b).length ≤ 100 := by
    have := (restsR_bd (settl s b (s.blk b)) (s.last.toNat + 1)).1
    simp only [Stl.restsL]; omega
  have hsp := fun (G : Heap) => f30 G (u := .sl false ((s.restsL b).map spA)) (v := .sl false ((s.restsL b).map spA)) (xs := s.restsL b) (ys := s.restsL b) ⟨rfl, by simp only [List.mem_map]; rintro _ ⟨p, _, rfl⟩; rfl⟩ ⟨rfl, by simp only [List.mem_map]; rintro _ ⟨p, _, rfl⟩; rfl⟩ (by omega) (by omega)
  have e1 : IntKind.i64.wrap (0 - warmHi s b (s.blk b) m) = -warmHi s b (s.blk b) m := by rw [w64 (by omega) (by omega)]; omega
  have e2 : IntKind.i64.wrap (0 - warmLo s b (s.blk b) m) = -warmLo s b (s.blk b) m := by rw [w64 (by omega) (by omega)]; omega
  have c1 : ¬ warmLo X b (X.blk b) m < warmLo s b (s.blk b) m := by omega
  have c2 : ¬ warmHi s b (s.blk b) m < warmHi X b (X.blk b) m := by omega
  have c3 : ¬ knd { s with near := near } b m < knd s b m := by omega
  rw [hN.near, hN.last] at B1 B2
  generalize hlo : warmLo s b (s.blk b) m = lo at *
  generalize hhi : warmHi s b (s.blk b) m = hi at *
  generalize warmLo X b (X.blk b) m = lo' at *
  generalize warmHi X b (X.blk b) m = hi' at *
  generalize knd s b m = k at *
  generalize knd X b m = d at *
  generalize knd { s with near := near } b m = n at *
  generalize wh s b = p at *
  generalize wh { s with near := near } b = p' at *
  have nn : ({ s with near := near } : Stl).near = near := rfl
  have nl : ({ s with near := near } : Stl).last = s.last := rfl
  have zn : s.neg.near = s.near := rfl
  have zl : s.neg.last = s.last := rfl
  have tn : (s.part b).near = s.near := rfl
  have tl : (s.part b).last = s.last := rfl
  rw [nn, nl] at C2 C3
  rw [zn, zl] at D1 D3 D4
  rw [tn, tl] at E1 E3
  have he := fun G => (hvb.app G).elems
  have hf := fun G => (hvt.app G).elems
  have hadB : addElem (H ++ M) 6 true (.sl true []) (s.bs.map Blk.av) = some (.gsl (H.length + 10) s.bs.length, H ++ (M ++ [.grow 6 (s.bs.map Blk.av)])) := by
    rw [add_full rfl rfl (elemsOk_map (fun _ => rfl) _) (ltL_map (fun _ => rfl) _) (by simp; omega) rfl]
    simp [hM, moreH]
  have hadT : addElem (H ++ (M ++ [.grow 6 (s.bs.map Blk.av)])) 4 true (.sl true []) (s.ts.map Tch.av) = some (.gsl (H.length + 11) s.ts.length, H ++ (M ++ [.grow 6 (s.bs.map Blk.av), .grow 4 (s.ts.map Tch.av)])) := by
    rw [add_full rfl rfl (elemsOk_map (fun _ => rfl) _) (ltL_map (fun _ => rfl) _) (by simp; omega) rfl]
    simp [hM, moreH]
  have loop := fun (G : Heap) => More_l56 (H := H) (vb := vb) (vt := vt) s hvb hvt (by omega) (by omega) (H ++ (M ++ (.grow 6 (s.bs.map Blk.av) :: .grow 4 (s.ts.map Tch.av) :: G))) (List.take_left' rfl) (by rw [get_at, hM]; rfl) (.gsl (H.length + 10) s.bs.length) (.gsl (H.length + 11) s.ts.length)
    ⟨⟨by rw [get_at' 10, hM]; rfl, by simp⟩, hmem (fun _ => 0) _⟩ (hvb.app _) ⟨⟨by rw [get_at' 11, hM]; rfl, by simp⟩, hmet _⟩ (hvt.app _) s.bs.length 0 (by omega)
  subst hM
  simp only [todoPast, loopIt, todoPast, todoAt, todoOf, firstReg, ↓reduceIte, Option.some.injEq, Nat.reduceEqDiff, reduceCtorEq, Try.f11]
  simp only [moreH, List.cons_append, List.nil_append] at A1 A2 A3 A4 B1 B2 C2 C3 D1 D3 D4 E1 E3 hadB hadT loop ⊢
  simp only [go_sem, ↓reduceIte, Nat.reduceEqDiff, Nat.reduceAdd, Nat.reduceLeDiff, Nat.reduceBEq, Nat.reduceMul, Nat.reduceLT, Int.reduceLT, Int.reduceLE, Int.reduceToNat, Int.reduceNeg, Int.reduceEq, Int.reduceMul, reduceCtorEq, Int.reduceBEq, Int.reduceBNe, Int.reduceAdd, Int.reduceSub, bne_self_eq_false, beq_self_eq_true, Nat.le_add_right, eqOk, fn11, res11, gc11_0, gc11_1, gc11_2, gc11_3, gc11_4, gc11_5, gc11_6, gc11_7, gc11_8, gc11_9, gc11_10, gc11_11, gc11_12, gc11_13, gc11_14, gc11_15, gc11_16, gc11_17, gc11_18, gc11_19, gc11_20, gc11_21, gc11_22, gc11_23, gc11_24, gc11_25, gc11_26, gc11_27, gc11_28, gc11_29, gc11_30, gc11_31, gc11_32, gc11_33, gc11_34, gc11_35, gc11_36, gc11_37, gc11_38, gc11_39, gc11_40, gc11_41, gc11_42, gc11_43, gc11_44, gc11_45, gc11_46, gc11_47, gc11_48, gc11_49, gc11_50, gc11_51, gc11_52, gc11_53, gc11_54, gc11_55, gc11_56, gc11_57, gc11_58, gc11_59, gc11_60, gc11_61, gc11_62, gc11_63, gc11_64, gc11_65, gc11_66, gc11_67, gcSt, keepEnv, envLt, heapLt, dfrLt, ADefer.lt, grow11_8, grow11_9, grow11_10, grow11_11, grow11_12, grow11_13, grow11_14, grow11_15, grow11_17, grow11_18, grow11_19, grow11_20, grow11_21, grow11_22, grow11_23, grow11_24, grow11_25, grow11_26, grow11_27, grow11_28, grow11_29, grow11_30, grow11_31, grow11_32, grow11_33, grow11_34, grow11_35, grow11_36, grow11_37, grow11_38, grow11_39, grow11_40, grow11_41, grow11_42, grow11_43, grow11_44, grow11_45, grow11_46, grow11_79, grow11_80, grow11_86, grow11_95, grow11_131, grow11_144, grow11_153, grow11_154, grow11_155, grow11_156, grow11_173, grow11_179, grow11_208, grow11_218, grow11_224, ty3, ty5, ty22, ty23, ty25, ty29, ty30, ty38, ty56, ty63, plan11_3, plan11_4, plan11_5, plan11_10, plan11_12, plan11_13, plan11_31, plan11_49, plan11_58, plan11_64, eqt29, eqt56, eqt63, g4, g9, g10, g11, g12, g13, g14]
  rw [chkK_of]; rotate_left; kernel_rfl
  have n3 : (k = 1) ∨ ((k != 1) = true ∧ d = k) := by simp only [bne_iff_ne, ne_eq]; omega
  have n12 : (p.2 == 0) = false ∨ (p.2 = 0 ∧ p'.2 = 0 ∧ ¬ p.1 < p'.1) := by simp only [beq_eq_false_iff_ne, ne_eq]; omega
  rcases n3 with rfl | ⟨n3, rfl⟩ <;> rcases n12 with n12 | ⟨n12, n13, n14⟩
  · simp only [go_sem, ↓reduceIte, Nat.reduceEqDiff, Nat.reduceAdd, Nat.reduceLeDiff, Nat.reduceBEq, Nat.reduceMul, Nat.reduceLT, Int.reduceLT, Int.reduceLE, Int.reduceToNat, Int.reduceNeg, Int.reduceEq, Int.reduceMul, reduceCtorEq, Int.reduceBEq, Int.reduceBNe, Int.reduceAdd, Int.reduceSub, bne_self_eq_false, beq_self_eq_true, Nat.le_add_right, eqOk, fn11, res11, gc11_0, gc11_1, gc11_2, gc11_3, gc11_4, gc11_5, gc11_6, gc11_7, gc11_8, gc11_9, gc11_10, gc11_11, gc11_12, gc11_13, gc11_14, gc11_15, gc11_16, gc11_17, gc11_18, gc11_19, gc11_20, gc11_21, gc11_22, gc11_23, gc11_24, gc11_25, gc11_26, gc11_27, gc11_28, gc11_29, gc11_30, gc11_31, gc11_32, gc11_33, gc11_34, gc11_35, gc11_36, gc11_37, gc11_38, gc11_39, gc11_40, gc11_41, gc11_42, gc11_43, gc11_44, gc11_45, gc11_46, gc11_47, gc11_48, gc11_49, gc11_50, gc11_51, gc11_52, gc11_53, gc11_54, gc11_55, gc11_56, gc11_57, gc11_58, gc11_59, gc11_60, gc11_61, gc11_62, gc11_63, gc11_64, gc11_65, gc11_66, gc11_67, gcSt, keepEnv, envLt, heapLt, dfrLt, ADefer.lt, grow11_8, grow11_9, grow11_10, grow11_11, grow11_12, grow11_13, grow11_14, grow11_15, grow11_17, grow11_18, grow11_19, grow11_20, grow11_21, grow11_22, grow11_23, grow11_24, grow11_25, grow11_26, grow11_27, grow11_28, grow11_29, grow11_30, grow11_31, grow11_32, grow11_33, grow11_34, grow11_35, grow11_36, grow11_37, grow11_38, grow11_39, grow11_40, grow11_41, grow11_42, grow11_43, grow11_44, grow11_45, grow11_46, grow11_79, grow11_80, grow11_86, grow11_95, grow11_131, grow11_144, grow11_153, grow11_154, grow11_155, grow11_156, grow11_173, grow11_179, grow11_208, grow11_218, grow11_224, ty3, ty5, ty22, ty23, ty25, ty29, ty30, ty38, ty56, ty63, plan11_3, plan11_4, plan11_5, plan11_10, plan11_12, plan11_13, plan11_31, plan11_49, plan11_58, plan11_64, eqt29, eqt56, eqt63, g4, g9, g10, g11, g12, g13, g14, he, hf, hadB, hadT, A1, A2, A3, A4, B1, B2, C2, C3, D1, D3, D4, E1, E3, hsp, e1, e2, c1, c2, c3, sameL, same_int, n12]
    rw [chkK_of]; rotate_left; kernel_rfl
    simp only [go_sem, ↓reduceIte, Nat.reduceEqDiff, Nat.reduceAdd, Nat.reduceLeDiff, Nat.reduceBEq, Nat.reduceMul, Nat.reduceLT, Int.reduceLT, Int.reduceLE, Int.reduceToNat, Int.reduceNeg, Int.reduceEq, Int.reduceMul, reduceCtorEq, Int.reduceBEq, Int.reduceBNe, Int.reduceAdd, Int.reduceSub, bne_self_eq_false, beq_self_eq_true, Nat.le_add_right, eqOk, fn11, res11, gc11_0, gc11_1, gc11_2, gc11_3, gc11_4, gc11_5, gc11_6, gc11_7, gc11_8, gc11_9, gc11_10, gc11_11, gc11_12, gc11_13, gc11_14, gc11_15, gc11_16, gc11_17, gc11_18, gc11_19, gc11_20, gc11_21, gc11_22, gc11_23, gc11_24, gc11_25, gc11_26, gc11_27, gc11_28, gc11_29, gc11_30, gc11_31, gc11_32, gc11_33, gc11_34, gc11_35, gc11_36, gc11_37, gc11_38, gc11_39, gc11_40, gc11_41, gc11_42, gc11_43, gc11_44, gc11_45, gc11_46, gc11_47, gc11_48, gc11_49, gc11_50, gc11_51, gc11_52, gc11_53, gc11_54, gc11_55, gc11_56, gc11_57, gc11_58, gc11_59, gc11_60, gc11_61, gc11_62, gc11_63, gc11_64, gc11_65, gc11_66, gc11_67, gcSt, keepEnv, envLt, heapLt, dfrLt, ADefer.lt, grow11_8, grow11_9, grow11_10, grow11_11, grow11_12, grow11_13, grow11_14, grow11_15, grow11_17, grow11_18, grow11_19, grow11_20, grow11_21, grow11_22, grow11_23, grow11_24, grow11_25, grow11_26, grow11_27, grow11_28, grow11_29, grow11_30, grow11_31, grow11_32, grow11_33, grow11_34, grow11_35, grow11_36, grow11_37, grow11_38, grow11_39, grow11_40, grow11_41, grow11_42, grow11_43, grow11_44, grow11_45, grow11_46, grow11_79, grow11_80, grow11_86, grow11_95, grow11_131, grow11_144, grow11_153, grow11_154, grow11_155, grow11_156, grow11_173, grow11_179, grow11_208, grow11_218, grow11_224, ty3, ty5, ty22, ty23, ty25, ty29, ty30, ty38, ty56, ty63, plan11_3, plan11_4, plan11_5, plan11_10, plan11_12, plan11_13, plan11_31, plan11_49, plan11_58, plan11_64, eqt29, eqt56, eqt63, g4, g9, g10, g11, g12, g13, g14, he, hf, hadB, hadT, A1, A2, A3, A4, B1, B2, C2, C3, D1, D3, D4, E1, E3, hsp, e1, e2, c1, c2, c3, sameL, same_int, f31, n12]
    exact loop _ _ (by exact g4) (by rfl) (by rfl) (by rfl) (by rfl)
  · simp only [go_sem, ↓reduceIte, Nat.reduceEqDiff, Nat.reduceAdd, Nat.reduceLeDiff, Nat.reduceBEq, Nat.reduceMul, Nat.reduceLT, Int.reduceLT, Int.reduceLE, Int.reduceToNat, Int.reduceNeg, Int.reduceEq, Int.reduceMul, reduceCtorEq, Int.reduceBEq, Int.reduceBNe, Int.reduceAdd, Int.reduceSub, bne_self_eq_false, beq_self_eq_true, Nat.le_add_right, eqOk, fn11, res11, gc11_0, gc11_1, gc11_2, gc11_3, gc11_4, gc11_5, gc11_6, gc11_7, gc11_8, gc11_9, gc11_10, gc11_11, gc11_12, gc11_13, gc11_14, gc11_15, gc11_16, gc11_17, gc11_18, gc11_19, gc11_20, gc11_21, gc11_22, gc11_23, gc11_24, gc11_25, gc11_26, gc11_27, gc11_28, gc11_29, gc11_30, gc11_31, gc11_32, gc11_33, gc11_34, gc11_35, gc11_36, gc11_37, gc11_38, gc11_39, gc11_40, gc11_41, gc11_42, gc11_43, gc11_44, gc11_45, gc11_46, gc11_47, gc11_48, gc11_49, gc11_50, gc11_51, gc11_52, gc11_53, gc11_54, gc11_55, gc11_56, gc11_57, gc11_58, gc11_59, gc11_60, gc11_61, gc11_62, gc11_63, gc11_64, gc11_65, gc11_66, gc11_67, gcSt, keepEnv, envLt, heapLt, dfrLt, ADefer.lt, grow11_8, grow11_9, grow11_10, grow11_11, grow11_12, grow11_13, grow11_14, grow11_15, grow11_17, grow11_18, grow11_19, grow11_20, grow11_21, grow11_22, grow11_23, grow11_24, grow11_25, grow11_26, grow11_27, grow11_28, grow11_29, grow11_30, grow11_31, grow11_32, grow11_33, grow11_34, grow11_35, grow11_36, grow11_37, grow11_38, grow11_39, grow11_40, grow11_41, grow11_42, grow11_43, grow11_44, grow11_45, grow11_46, grow11_79, grow11_80, grow11_86, grow11_95, grow11_131, grow11_144, grow11_153, grow11_154, grow11_155, grow11_156, grow11_173, grow11_179, grow11_208, grow11_218, grow11_224, ty3, ty5, ty22, ty23, ty25, ty29, ty30, ty38, ty56, ty63, plan11_3, plan11_4, plan11_5, plan11_10, plan11_12, plan11_13, plan11_31, plan11_49, plan11_58, plan11_64, eqt29, eqt56, eqt63, g4, g9, g10, g11, g12, g13, g14, he, hf, hadB, hadT, A1, A2, A3, A4, B1, B2, C2, C3, D1, D3, D4, E1, E3, hsp, e1, e2, c1, c2, c3, sameL, same_int, n12, n13, n14]
    rw [chkK_of]; rotate_left; kernel_rfl
    simp only [go_sem, ↓reduceIte, Nat.reduceEqDiff, Nat.reduceAdd, Nat.reduceLeDiff, Nat.reduceBEq, Nat.reduceMul, Nat.reduceLT, Int.reduceLT, Int.reduceLE, Int.reduceToNat, Int.reduceNeg, Int.reduceEq, Int.reduceMul, reduceCtorEq, Int.reduceBEq, Int.reduceBNe, Int.reduceAdd, Int.reduceSub, bne_self_eq_false, beq_self_eq_true, Nat.le_add_right, eqOk, fn11, res11, gc11_0, gc11_1, gc11_2, gc11_3, gc11_4, gc11_5, gc11_6, gc11_7, gc11_8, gc11_9, gc11_10, gc11_11, gc11_12, gc11_13, gc11_14, gc11_15, gc11_16, gc11_17, gc11_18, gc11_19, gc11_20, gc11_21, gc11_22, gc11_23, gc11_24, gc11_25, gc11_26, gc11_27, gc11_28, gc11_29, gc11_30, gc11_31, gc11_32, gc11_33, gc11_34, gc11_35, gc11_36, gc11_37, gc11_38, gc11_39, gc11_40, gc11_41, gc11_42, gc11_43, gc11_44, gc11_45, gc11_46, gc11_47, gc11_48, gc11_49, gc11_50, gc11_51, gc11_52, gc11_53, gc11_54, gc11_55, gc11_56, gc11_57, gc11_58, gc11_59, gc11_60, gc11_61, gc11_62, gc11_63, gc11_64, gc11_65, gc11_66, gc11_67, gcSt, keepEnv, envLt, heapLt, dfrLt, ADefer.lt, grow11_8, grow11_9, grow11_10, grow11_11, grow11_12, grow11_13, grow11_14, grow11_15, grow11_17, grow11_18, grow11_19, grow11_20, grow11_21, grow11_22, grow11_23, grow11_24, grow11_25, grow11_26, grow11_27, grow11_28, grow11_29, grow11_30, grow11_31, grow11_32, grow11_33, grow11_34, grow11_35, grow11_36, grow11_37, grow11_38, grow11_39, grow11_40, grow11_41, grow11_42, grow11_43, grow11_44, grow11_45, grow11_46, grow11_79, grow11_80, grow11_86, grow11_95, grow11_131, grow11_144, grow11_153, grow11_154, grow11_155, grow11_156, grow11_173, grow11_179, grow11_208, grow11_218, grow11_224, ty3, ty5, ty22, ty23, ty25, ty29, ty30, ty38, ty56, ty63, plan11_3, plan11_4, plan11_5, plan11_10, plan11_12, plan11_13, plan11_31, plan11_49, plan11_58, plan11_64, eqt29, eqt56, eqt63, g4, g9, g10, g11, g12, g13, g14, he, hf, hadB, hadT, A1, A2, A3, A4, B1, B2, C2, C3, D1, D3, D4, E1, E3, hsp, e1, e2, c1, c2, c3, sameL, same_int, f31, n12]
    exact loop _ _ (by exact g4) (by rfl) (by rfl) (by rfl) (by rfl)
  · simp only [go_sem, ↓reduceIte, Nat.reduceEqDiff, Nat.reduceAdd, Nat.reduceLeDiff, Nat.reduceBEq, Nat.reduceMul, Nat.reduceLT, Int.reduceLT, Int.reduceLE, Int.reduceToNat, Int.reduceNeg, Int.reduceEq, Int.reduceMul, reduceCtorEq, Int.reduceBEq, Int.reduceBNe, Int.reduceAdd, Int.reduceSub, bne_self_eq_false, beq_self_eq_true, Nat.le_add_right, eqOk, fn11, res11, gc11_0, gc11_1, gc11_2, gc11_3, gc11_4, gc11_5, gc11_6, gc11_7, gc11_8, gc11_9, gc11_10, gc11_11, gc11_12, gc11_13, gc11_14, gc11_15, gc11_16, gc11_17, gc11_18, gc11_19, gc11_20, gc11_21, gc11_22, gc11_23, gc11_24, gc11_25, gc11_26, gc11_27, gc11_28, gc11_29, gc11_30, gc11_31, gc11_32, gc11_33, gc11_34, gc11_35, gc11_36, gc11_37, gc11_38, gc11_39, gc11_40, gc11_41, gc11_42, gc11_43, gc11_44, gc11_45, gc11_46, gc11_47, gc11_48, gc11_49, gc11_50, gc11_51, gc11_52, gc11_53, gc11_54, gc11_55, gc11_56, gc11_57, gc11_58, gc11_59, gc11_60, gc11_61, gc11_62, gc11_63, gc11_64, gc11_65, gc11_66, gc11_67, gcSt, keepEnv, envLt, heapLt, dfrLt, ADefer.lt, grow11_8, grow11_9, grow11_10, grow11_11, grow11_12, grow11_13, grow11_14, grow11_15, grow11_17, grow11_18, grow11_19, grow11_20, grow11_21, grow11_22, grow11_23, grow11_24, grow11_25, grow11_26, grow11_27, grow11_28, grow11_29, grow11_30, grow11_31, grow11_32, grow11_33, grow11_34, grow11_35, grow11_36, grow11_37, grow11_38, grow11_39, grow11_40, grow11_41, grow11_42, grow11_43, grow11_44, grow11_45, grow11_46, grow11_79, grow11_80, grow11_86, grow11_95, grow11_131, grow11_144, grow11_153, grow11_154, grow11_155, grow11_156, grow11_173, grow11_179, grow11_208, grow11_218, grow11_224, ty3, ty5, ty22, ty23, ty25, ty29, ty30, ty38, ty56, ty63, plan11_3, plan11_4, plan11_5, plan11_10, plan11_12, plan11_13, plan11_31, plan11_49, plan11_58, plan11_64, eqt29, eqt56, eqt63, g4, g9, g10, g11, g12, g13, g14, he, hf, hadB, hadT, A1, A2, A3, A4, B1, B2, C2, C3, D1, D3, D4, E1, E3, hsp, e1, e2, c1, c2, c3, sameL, same_int, n3, n12]
    rw [chkK_of]; rotate_left; kernel_rfl
    simp only [go_sem, ↓reduceIte, Nat.reduceEqDiff, Nat.reduceAdd, Nat.reduceLeDiff, Nat.reduceBEq, Nat.reduceMul, Nat.reduceLT, Int.reduceLT, Int.reduceLE, Int.reduceToNat, Int.reduceNeg, Int.reduceEq, Int.reduceMul, reduceCtorEq, Int.reduceBEq, Int.reduceBNe, Int.reduceAdd, Int.reduceSub, bne_self_eq_false, beq_self_eq_true, Nat.le_add_right, eqOk, fn11, res11, gc11_0, gc11_1, gc11_2, gc11_3, gc11_4, gc11_5, gc11_6, gc11_7, gc11_8, gc11_9, gc11_10, gc11_11, gc11_12, gc11_13, gc11_14, gc11_15, gc11_16, gc11_17, gc11_18, gc11_19, gc11_20, gc11_21, gc11_22, gc11_23, gc11_24, gc11_25, gc11_26, gc11_27, gc11_28, gc11_29, gc11_30, gc11_31, gc11_32, gc11_33, gc11_34, gc11_35, gc11_36, gc11_37, gc11_38, gc11_39, gc11_40, gc11_41, gc11_42, gc11_43, gc11_44, gc11_45, gc11_46, gc11_47, gc11_48, gc11_49, gc11_50, gc11_51, gc11_52, gc11_53, gc11_54, gc11_55, gc11_56, gc11_57, gc11_58, gc11_59, gc11_60, gc11_61, gc11_62, gc11_63, gc11_64, gc11_65, gc11_66, gc11_67, gcSt, keepEnv, envLt, heapLt, dfrLt, ADefer.lt, grow11_8, grow11_9, grow11_10, grow11_11, grow11_12, grow11_13, grow11_14, grow11_15, grow11_17, grow11_18, grow11_19, grow11_20, grow11_21, grow11_22, grow11_23, grow11_24, grow11_25, grow11_26, grow11_27, grow11_28, grow11_29, grow11_30, grow11_31, grow11_32, grow11_33, grow11_34, grow11_35, grow11_36, grow11_37, grow11_38, grow11_39, grow11_40, grow11_41, grow11_42, grow11_43, grow11_44, grow11_45, grow11_46, grow11_79, grow11_80, grow11_86, grow11_95, grow11_131, grow11_144, grow11_153, grow11_154, grow11_155, grow11_156, grow11_173, grow11_179, grow11_208, grow11_218, grow11_224, ty3, ty5, ty22, ty23, ty25, ty29, ty30, ty38, ty56, ty63, plan11_3, plan11_4, plan11_5, plan11_10, plan11_12, plan11_13, plan11_31, plan11_49, plan11_58, plan11_64, eqt29, eqt56, eqt63, g4, g9, g10, g11, g12, g13, g14, he, hf, hadB, hadT, A1, A2, A3, A4, B1, B2, C2, C3, D1, D3, D4, E1, E3, hsp, e1, e2, c1, c2, c3, sameL, same_int, f31, n12]
    exact loop _ _ (by exact g4) (by rfl) (by rfl) (by rfl) (by rfl)
  · simp only [go_sem, ↓reduceIte, Nat.reduceEqDiff, Nat.reduceAdd, Nat.reduceLeDiff, Nat.reduceBEq, Nat.reduceMul, Nat.reduceLT, Int.reduceLT, Int.reduceLE, Int.reduceToNat, Int.reduceNeg, Int.reduceEq, Int.reduceMul, reduceCtorEq, Int.reduceBEq, Int.reduceBNe, Int.reduceAdd, Int.reduceSub, bne_self_eq_false, beq_self_eq_true, Nat.le_add_right, eqOk, fn11, res11, gc11_0, gc11_1, gc11_2, gc11_3, gc11_4, gc11_5, gc11_6, gc11_7, gc11_8, gc11_9, gc11_10, gc11_11, gc11_12, gc11_13, gc11_14, gc11_15, gc11_16, gc11_17, gc11_18, gc11_19, gc11_20, gc11_21, gc11_22, gc11_23, gc11_24, gc11_25, gc11_26, gc11_27, gc11_28, gc11_29, gc11_30, gc11_31, gc11_32, gc11_33, gc11_34, gc11_35, gc11_36, gc11_37, gc11_38, gc11_39, gc11_40, gc11_41, gc11_42, gc11_43, gc11_44, gc11_45, gc11_46, gc11_47, gc11_48, gc11_49, gc11_50, gc11_51, gc11_52, gc11_53, gc11_54, gc11_55, gc11_56, gc11_57, gc11_58, gc11_59, gc11_60, gc11_61, gc11_62, gc11_63, gc11_64, gc11_65, gc11_66, gc11_67, gcSt, keepEnv, envLt, heapLt, dfrLt, ADefer.lt, grow11_8, grow11_9, grow11_10, grow11_11, grow11_12, grow11_13, grow11_14, grow11_15, grow11_17, grow11_18, grow11_19, grow11_20, grow11_21, grow11_22, grow11_23, grow11_24, grow11_25, grow11_26, grow11_27, grow11_28, grow11_29, grow11_30, grow11_31, grow11_32, grow11_33, grow11_34, grow11_35, grow11_36, grow11_37, grow11_38, grow11_39, grow11_40, grow11_41, grow11_42, grow11_43, grow11_44, grow11_45, grow11_46, grow11_79, grow11_80, grow11_86, grow11_95, grow11_131, grow11_144, grow11_153, grow11_154, grow11_155, grow11_156, grow11_173, grow11_179, grow11_208, grow11_218, grow11_224, ty3, ty5, ty22, ty23, ty25, ty29, ty30, ty38, ty56, ty63, plan11_3, plan11_4, plan11_5, plan11_10, plan11_12, plan11_13, plan11_31, plan11_49, plan11_58, plan11_64, eqt29, eqt56, eqt63, g4, g9, g10, g11, g12, g13, g14, he, hf, hadB, hadT, A1, A2, A3, A4, B1, B2, C2, C3, D1, D3, D4, E1, E3, hsp, e1, e2, c1, c2, c3, sameL, same_int, n3, n12, n13, n14]
    rw [chkK_of]; rotate_left; kernel_rfl
    simp only [go_sem, ↓reduceIte, Nat.reduceEqDiff, Nat.reduceAdd, Nat.reduceLeDiff, Nat.reduceBEq, Nat.reduceMul, Nat.reduceLT, Int.reduceLT, Int.reduceLE, Int.reduceToNat, Int.reduceNeg, Int.reduceEq, Int.reduceMul, reduceCtorEq, Int.reduceBEq, Int.reduceBNe, Int.reduceAdd, Int.reduceSub, bne_self_eq_false, beq_self_eq_true, Nat.le_add_right, eqOk, fn11, res11, gc11_0, gc11_1, gc11_2, gc11_3, gc11_4, gc11_5, gc11_6, gc11_7, gc11_8, gc11_9, gc11_10, gc11_11, gc11_12, gc11_13, gc11_14, gc11_15, gc11_16, gc11_17, gc11_18, gc11_19, gc11_20, gc11_21, gc11_22, gc11_23, gc11_24, gc11_25, gc11_26, gc11_27, gc11_28, gc11_29, gc11_30, gc11_31, gc11_32, gc11_33, gc11_34, gc11_35, gc11_36, gc11_37, gc11_38, gc11_39, gc11_40, gc11_41, gc11_42, gc11_43, gc11_44, gc11_45, gc11_46, gc11_47, gc11_48, gc11_49, gc11_50, gc11_51, gc11_52, gc11_53, gc11_54, gc11_55, gc11_56, gc11_57, gc11_58, gc11_59, gc11_60, gc11_61, gc11_62, gc11_63, gc11_64, gc11_65, gc11_66, gc11_67, gcSt, keepEnv, envLt, heapLt, dfrLt, ADefer.lt, grow11_8, grow11_9, grow11_10, grow11_11, grow11_12, grow11_13, grow11_14, grow11_15, grow11_17, grow11_18, grow11_19, grow11_20, grow11_21, grow11_22, grow11_23, grow11_24, grow11_25, grow11_26, grow11_27, grow11_28, grow11_29, grow11_30, grow11_31, grow11_32, grow11_33, grow11_34, grow11_35, grow11_36, grow11_37, grow11_38, grow11_39, grow11_40, grow11_41, grow11_42, grow11_43, grow11_44, grow11_45, grow11_46, grow11_79, grow11_80, grow11_86, grow11_95, grow11_131, grow11_144, grow11_153, grow11_154, grow11_155, grow11_156, grow11_173, grow11_179, grow11_208, grow11_218, grow11_224, ty3, ty5, ty22, ty23, ty25, ty29, ty30, ty38, ty56, ty63, plan11_3, plan11_4, plan11_5, plan11_10, plan11_12, plan11_13, plan11_31, plan11_49, plan11_58, plan11_64, eqt29, eqt56, eqt63, g4, g9, g10, g11, g12, g13, g14, he, hf, hadB, hadT, A1, A2, A3, A4, B1, B2, C2, C3, D1, D3, D4, E1, E3, hsp, e1, e2, c1, c2, c3, sameL, same_int, f31, n12]
    exact loop _ _ (by exact g4) (by rfl) (by rfl) (by rfl) (by rfl)

end Go.Ab
/-
  SettleMore: what is known better; walked.
-/
namespace Go.Ab
open Go.Proofs
set_option linter.unusedSimpArgs false
set_option linter.unusedVariables false
set_option maxRecDepth 100000

variable {H : Heap} {vb vt : AV}

theorem heats_set (b m e : Int) (t' : Tch) : ∀ (ts : List Tch) (i : Nat) (t : Tch), ts[i]? = some t → t'.b = t.b → t'.m = t.m →
    (heats (ts.set i t') b m e).sum = (heats ts b m e).sum + if t.b = b ∧ t.m = m then t'.h e - t.h e else 0
  | [], i, t, h, _, _ => by simp at h
  | x :: r, 0, t, h, hb, hm => by
    simp only [List.getElem?_cons_zero, Option.some.injEq] at h
    subst h
    rw [List.set_cons_zero, heats_cons, heats_cons, hb, hm]
    split
    · simp only [List.sum_append, List.sum_cons, List.sum_nil]; omega
    · simp only [List.nil_append]; omega
  | x :: r, i + 1, t, h, hb, hm => by
    simp only [List.getElem?_cons_succ] at h
    have ih := heats_set b m e t' r i t h hb hm
    rw [List.set_cons_succ, heats_cons, heats_cons]
    simp only [List.sum_append]
    omega

theorem nar_blk {s : Stl} (hv : s.valid = true) {b : Int} (hb : 0 ≤ b ∧ b < s.bs.length) (B : Blk) (hok : B.Ok) (h0 : (s.blk b).x0 ≤ B.x0) (h1 : B.x1 ≤ (s.blk b).x1) (h2 : (s.blk b).s0 ≤ B.s0) (h3 : B.s1 ≤ (s.blk b).s1) :
    ({ s with bs := s.bs.set b.toNat B } : Stl).valid = true ∧ Nar s { s with bs := s.bs.set b.toNat B } b := by
  have hB : ({ s with bs := s.bs.set b.toNat B } : Stl).blk b = B := by
    simp only [Stl.blk]
    rw [List.getD_eq_getElem?_getD, List.getElem?_set_self (by omega)]; rfl
  refine ⟨?_, ⟨rfl, rfl, by rw [hB]; exact h0, by rw [hB]; exact h1, by rw [hB]; exact h2, by rw [hB]; exact h3, fun _ => Int.le_refl _, fun _ => Int.le_refl _⟩⟩
  simp only [Stl.valid, Stl.nums, Bool.and_eq_true, List.length_set] at hv ⊢
  refine ⟨hv.1, ?_, hv.2.2⟩
  rw [List.all_eq_true]
  intro x hx
  rcases List.mem_or_eq_of_mem_set hx with hx | rfl
  · exact List.all_eq_true.1 hv.2.1 x hx
  · simp only [Blk.okb, Bool.and_eq_true]
    exact ⟨spn_true hok.a1 hok.a2 hok.a3, spn_true hok.a4 hok.a5 hok.a6, spn_true hok.a7 hok.a8 hok.a9⟩

theorem nar_tch {s : Stl} (hv : s.valid = true) (b : Int) {i : Nat} {t : Tch} (ht : s.ts[i]? = some t) (l h : Int) (h0 : t.h0 ≤ l) (h1 : l ≤ h) (h2 : h ≤ t.h1) :
    ({ s with ts := s.ts.set i ⟨t.b, t.m, l, h⟩ } : Stl).valid = true ∧ Nar s { s with ts := s.ts.set i ⟨t.b, t.m, l, h⟩ } b := by
  have hwf := Stl.valid_wf hv
  have hm := List.mem_of_getElem? ht
  have hto := hwf.ts t hm
  refine ⟨?_, ⟨rfl, rfl, Int.le_refl _, Int.le_refl _, Int.le_refl _, Int.le_refl _, fun m => ?_, fun m => ?_⟩⟩
  · simp only [Stl.valid, Stl.nums, Bool.and_eq_true, List.length_set] at hv ⊢
    refine ⟨hv.1, hv.2.1, ?_⟩
    rw [List.all_eq_true]
    intro x hx
    rcases List.mem_or_eq_of_mem_set hx with hx | rfl
    · exact List.all_eq_true.1 hv.2.2 x hx
    · have h := List.all_eq_true.1 hv.2.2 t hm
      simp only [Tch.okb, Bool.and_eq_true] at h ⊢
      exact ⟨h.1, h.2.1, spn_true (by omega) h1 (by omega)⟩
  · show (heats s.ts b m 0).sum ≤ (heats (s.ts.set i ⟨t.b, t.m, l, h⟩) b m 0).sum
    have := heats_set b m 0 ⟨t.b, t.m, l, h⟩ s.ts i t ht rfl rfl
    have e0 : Tch.h ⟨t.b, t.m, l, h⟩ 0 = l := rfl
    have e1 : t.h 0 = t.h0 := rfl
    rw [e0, e1] at this
    split at this <;> omega
  · show (heats (s.ts.set i ⟨t.b, t.m, l, h⟩) b m 1).sum ≤ (heats s.ts b m 1).sum
    have := heats_set b m 1 ⟨t.b, t.m, l, h⟩ s.ts i t ht rfl rfl
    have e0 : Tch.h ⟨t.b, t.m, l, h⟩ 1 = h := rfl
    have e1 : t.h 1 = t.h1 := rfl
    rw [e0, e1] at this
    split at this <;> omega

theorem More_fin (s X : Stl) (hv : s.valid = true) (hXv : X.valid = true) (hvb : SlOk H 6 vb (s.bs.map Blk.av)) (hvt : SlOk H 4 vt (s.ts.map Tch.av)) (near : Int) (hnr : s.near ≤ near ∧ near ≤ 20) (b : Int) (hb : 0 ≤ b ∧ b < s.bs.length) (m : Nat) (hm : (m : Int) ≤ s.last) (hN : Nar s X b) (hXb : X.bs.length = s.bs.length) (hXt : X.ts.length = s.ts.length) :
    ∀ (E : Env) (G : Heap), E.get 4 = .ptr H.length 0 → E.get 9 = I b → E.get 10 = I m → E.get 11 = .ptr (H.length + 1) 0 → E.get 12 = .ptr (H.length + 2) 0 → E.get 13 = .ptr (H.length + 3) 0 → E.get 14 = .ptr (H.length + 4) 0 → E.get 158 = vb → E.get 159 = I s.bs.length → E.get 160 = I ((0 : Nat) : Int) →
      Option.map (finishC H.length) (execL cfg0 prog0 ⟨11, none, false, H.length⟩ (loopIt Try.f11 17 :: .inBlock 1 :: todoPast Try.f11 17) ⟨E, [], H ++ (moreH vb vt s X near H.length [] [] [] 0 0 0 ++ G), none⟩) = some ⟨.ret (.bool true), H, none⟩ := by
  refine More_l17 _ _ s X hv hvb hvt near b m (fun E g4 g9 g10 g11 g12 g13 g14 => ?_) s.bs.length 0 0 [] (by omega) rfl rfl
  have l23 := More_l23 (H := H) (vb := vb) (vt := vt) _ _ s X hv hvb hvt near b m (s.bs.map Blk.neg) (fun E g4 g9 g10 g11 g12 g13 g14 => More_tail s X hv hXv hvb hvt near hnr b hb m hm hN hXb hXt E g4 g9 g10 g11 g12 g13 g14) s.ts.length 0 0 0 [] [] (by omega) rfl rfl rfl rfl
  simp only [todoPast, loopIt, todoPast, todoAt, todoOf, firstReg, ↓reduceIte, Option.some.injEq, Nat.reduceEqDiff, reduceCtorEq, Try.f11]
  simp only [moreH, List.cons_append, List.nil_append, List.map_nil] at l23 ⊢
  simp only [go_sem, ↓reduceIte, Nat.reduceEqDiff, Nat.reduceAdd, Nat.reduceLeDiff, Nat.reduceBEq, Nat.reduceMul, Nat.reduceLT, Int.reduceLT, Int.reduceLE, Int.reduceToNat, Int.reduceNeg, Int.reduceEq, Int.reduceMul, reduceCtorEq, Int.reduceBEq, Int.reduceBNe, Int.reduceAdd, Int.reduceSub, bne_self_eq_false, beq_self_eq_true, Nat.le_add_right, eqOk, fn11, res11, gc11_0, gc11_1, gc11_2, gc11_3, gc11_4, gc11_5, gc11_6, gc11_7, gc11_8, gc11_9, gc11_10, gc11_11, gc11_12, gc11_13, gc11_14, gc11_15, gc11_16, gc11_17, gc11_18, gc11_19, gc11_20, gc11_21, gc11_22, gc11_23, gc11_24, gc11_25, gc11_26, gc11_27, gc11_28, gc11_29, gc11_30, gc11_31, gc11_32, gc11_33, gc11_34, gc11_35, gc11_36, gc11_37, gc11_38, gc11_39, gc11_40, gc11_41, gc11_42, gc11_43, gc11_44, gc11_45, gc11_46, gc11_47, gc11_48, gc11_49, gc11_50, gc11_51, gc11_52, gc11_53, gc11_54, gc11_55, gc11_56, gc11_57, gc11_58, gc11_59, gc11_60, gc11_61, gc11_62, gc11_63, gc11_64, gc11_65, gc11_66, gc11_67, gcSt, keepEnv, envLt, heapLt, dfrLt, ADefer.lt, grow11_8, grow11_9, grow11_10, grow11_11, grow11_12, grow11_13, grow11_14, grow11_15, grow11_17, grow11_18, grow11_19, grow11_20, grow11_21, grow11_22, grow11_23, grow11_24, grow11_25, grow11_26, grow11_27, grow11_28, grow11_29, grow11_30, grow11_31, grow11_32, grow11_33, grow11_34, grow11_35, grow11_36, grow11_37, grow11_38, grow11_39, grow11_40, grow11_41, grow11_42, grow11_43, grow11_44, grow11_45, grow11_46, grow11_79, grow11_80, grow11_86, grow11_95, grow11_131, grow11_144, grow11_153, grow11_154, grow11_155, grow11_156, grow11_173, grow11_179, grow11_208, grow11_218, grow11_224, ty3, ty5, ty22, ty23, ty25, ty29, ty30, ty38, ty56, ty63, plan11_3, plan11_4, plan11_5, plan11_10, plan11_12, plan11_13, plan11_31, plan11_49, plan11_58, plan11_64, eqt29, eqt56, eqt63, g4, g9, g10, g11, g12, g13, g14, hvt.len, List.length_map]
  exact l23 _ [] (by exact g4) (by exact g9) (by exact g10) (by exact g11) (by exact g12) (by exact g13) (by exact g14) (by rfl) (by rfl) (by rfl)

end Go.Ab
/-
  SettleMore, walked.
-/
namespace Go.Ab
open Go.Proofs
set_option linter.unusedSimpArgs false
set_option linter.unusedVariables false
set_option maxRecDepth 100000

variable {H : Heap} {vb vt : AV}

theorem wu8 {n : Int} (h : 0 ≤ n ∧ n ≤ 255) : IntKind.u8.wrap n = n := by
  simp only [IntKind.wrap, IntKind.bits, IntKind.signed]
  have e : (2 : Int) ^ 8 = 256 := by decide
  simp only [e, Bool.false_and, Bool.false_eq_true, if_false]
  omega

theorem mn_bd {l h : Int} (hh : l ≤ h) : l ≤ mn h (l + 1) ∧ mn h (l + 1) ≤ h := by simp only [mn]; split <;> omega
theorem mx_bd {l h : Int} (hh : l ≤ h) : l ≤ mx l (h - 1) ∧ mx l (h - 1) ≤ h := by simp only [mx]; split <;> omega

theorem law_SettleMore (s : Stl) (hvb : SlOk H 6 vb (s.bs.map Blk.av)) (hvt : SlOk H 4 vt (s.ts.map Tch.av)) (w u a : Int) (hw : 0 ≤ w ∧ w ≤ 255) (hu : 0 ≤ u ∧ u ≤ 255) (ha : 0 ≤ a ∧ a ≤ 255) :
    callFL cfg0 prog0 false 11 [.agg [vb, I s.near, I s.last, vt], U8 w, U8 u, U8 a] H none = some ⟨.ret (.bool true), H, none⟩ := by
  have sb := hvb.scal
  have st := hvt.scal
  have hL := law_long s hvb hvt
  refine (callFL_eq fn11 rfl (by simp [Try.f11])).trans ?_
  rcases long_cases s with hl | ⟨hl, hl1, hl2⟩
  · simp only [go_sem, ↓reduceIte, Nat.reduceEqDiff, Nat.reduceAdd, Nat.reduceLeDiff, Nat.reduceBEq, Nat.reduceMul, Nat.reduceLT, Int.reduceLT, Int.reduceLE, Int.reduceToNat, Int.reduceNeg, Int.reduceEq, Int.reduceMul, reduceCtorEq, Int.reduceBEq, Int.reduceBNe, Int.reduceAdd, Int.reduceSub, bne_self_eq_false, beq_self_eq_true, Nat.le_add_right, eqOk, fn11, res11, gc11_0, gc11_1, gc11_2, gc11_3, gc11_4, gc11_5, gc11_6, gc11_7, gc11_8, gc11_9, gc11_10, gc11_11, gc11_12, gc11_13, gc11_14, gc11_15, gc11_16, gc11_17, gc11_18, gc11_19, gc11_20, gc11_21, gc11_22, gc11_23, gc11_24, gc11_25, gc11_26, gc11_27, gc11_28, gc11_29, gc11_30, gc11_31, gc11_32, gc11_33, gc11_34, gc11_35, gc11_36, gc11_37, gc11_38, gc11_39, gc11_40, gc11_41, gc11_42, gc11_43, gc11_44, gc11_45, gc11_46, gc11_47, gc11_48, gc11_49, gc11_50, gc11_51, gc11_52, gc11_53, gc11_54, gc11_55, gc11_56, gc11_57, gc11_58, gc11_59, gc11_60, gc11_61, gc11_62, gc11_63, gc11_64, gc11_65, gc11_66, gc11_67, gcSt, keepEnv, envLt, heapLt, dfrLt, ADefer.lt, grow11_8, grow11_9, grow11_10, grow11_11, grow11_12, grow11_13, grow11_14, grow11_15, grow11_17, grow11_18, grow11_19, grow11_20, grow11_21, grow11_22, grow11_23, grow11_24, grow11_25, grow11_26, grow11_27, grow11_28, grow11_29, grow11_30, grow11_31, grow11_32, grow11_33, grow11_34, grow11_35, grow11_36, grow11_37, grow11_38, grow11_39, grow11_40, grow11_41, grow11_42, grow11_43, grow11_44, grow11_45, grow11_46, grow11_79, grow11_80, grow11_86, grow11_95, grow11_131, grow11_144, grow11_153, grow11_154, grow11_155, grow11_156, grow11_173, grow11_179, grow11_208, grow11_218, grow11_224, ty3, ty5, ty22, ty23, ty25, ty29, ty30, ty38, ty56, ty63, plan11_3, plan11_4, plan11_5, plan11_10, plan11_12, plan11_13, plan11_31, plan11_49, plan11_58, plan11_64, eqt29, eqt56, eqt63, sb, st, hL, hl, f13]
  · have hV := fun (G : Heap) => ref_Settle (H := H ++ G) s (hvb.app G) (hvt.app G) (by omega) (by omega)
    cases hv : s.valid with
    | false => simp only [go_sem, ↓reduceIte, Nat.reduceEqDiff, Nat.reduceAdd, Nat.reduceLeDiff, Nat.reduceBEq, Nat.reduceMul, Nat.reduceLT, Int.reduceLT, Int.reduceLE, Int.reduceToNat, Int.reduceNeg, Int.reduceEq, Int.reduceMul, reduceCtorEq, Int.reduceBEq, Int.reduceBNe, Int.reduceAdd, Int.reduceSub, bne_self_eq_false, beq_self_eq_true, Nat.le_add_right, eqOk, fn11, res11, gc11_0, gc11_1, gc11_2, gc11_3, gc11_4, gc11_5, gc11_6, gc11_7, gc11_8, gc11_9, gc11_10, gc11_11, gc11_12, gc11_13, gc11_14, gc11_15, gc11_16, gc11_17, gc11_18, gc11_19, gc11_20, gc11_21, gc11_22, gc11_23, gc11_24, gc11_25, gc11_26, gc11_27, gc11_28, gc11_29, gc11_30, gc11_31, gc11_32, gc11_33, gc11_34, gc11_35, gc11_36, gc11_37, gc11_38, gc11_39, gc11_40, gc11_41, gc11_42, gc11_43, gc11_44, gc11_45, gc11_46, gc11_47, gc11_48, gc11_49, gc11_50, gc11_51, gc11_52, gc11_53, gc11_54, gc11_55, gc11_56, gc11_57, gc11_58, gc11_59, gc11_60, gc11_61, gc11_62, gc11_63, gc11_64, gc11_65, gc11_66, gc11_67, gcSt, keepEnv, envLt, heapLt, dfrLt, ADefer.lt, grow11_8, grow11_9, grow11_10, grow11_11, grow11_12, grow11_13, grow11_14, grow11_15, grow11_17, grow11_18, grow11_19, grow11_20, grow11_21, grow11_22, grow11_23, grow11_24, grow11_25, grow11_26, grow11_27, grow11_28, grow11_29, grow11_30, grow11_31, grow11_32, grow11_33, grow11_34, grow11_35, grow11_36, grow11_37, grow11_38, grow11_39, grow11_40, grow11_41, grow11_42, grow11_43, grow11_44, grow11_45, grow11_46, grow11_79, grow11_80, grow11_86, grow11_95, grow11_131, grow11_144, grow11_153, grow11_154, grow11_155, grow11_156, grow11_173, grow11_179, grow11_208, grow11_218, grow11_224, ty3, ty5, ty22, ty23, ty25, ty29, ty30, ty38, ty56, ty63, plan11_3, plan11_4, plan11_5, plan11_10, plan11_12, plan11_13, plan11_31, plan11_49, plan11_58, plan11_64, eqt29, eqt56, eqt63, sb, st, hL, hl, hV, hv, f13]
    | true =>
      have hn := valid_nums hv
      have hwf := Stl.valid_wf hv
      have c1 : IntKind.i64.wrap w = w := w64 (by omega) (by omega)
      have c2 : IntKind.i64.wrap u = u := w64 (by omega) (by omega)
      have c3 : IntKind.i64.wrap a = a := w64 (by omega) (by omega)
      have m1 := mod_lt (a := w) (b := (s.bs.length : Int)) (by omega)
      have m2 := mod_lt (a := u) (b := s.last + 1) (by omega)
      have m3 := mod_lt (a := a) (b := 4) (by omega)
      have z1 : ¬ (s.bs.length : Int) = 0 := by omega
      have z3 : ¬ s.last + 1 = 0 := by omega
      have c4 : IntKind.i64.wrap (s.last + 1) = s.last + 1 := w64 (by omega) (by omega)
      have t1 : w.tmod (s.bs.length : Int) = w % (s.bs.length : Int) := tmod_nn hw.1
      have t2 : u.tmod (s.last + 1) = u % (s.last + 1) := tmod_nn hu.1
      have t3 : a.tmod 4 = a % 4 := tmod_nn ha.1
      have t4 : a.tmod 3 = a % 3 := tmod_nn ha.1
      have t5 : (a.tdiv 3) = a / 3 := Int.tdiv_eq_ediv_of_nonneg ha.1
      have t6 : (a / 3).tmod 2 = a / 3 % 2 := tmod_nn (by omega)
      have t7 : u.tmod (s.ts.length : Int) = u % (s.ts.length : Int) := tmod_nn hu.1
      have c5 : IntKind.i64.wrap (s.near + 1) = s.near + 1 := w64 (by omega) (by omega)
      generalize w % (s.bs.length : Int) = b at *
      generalize u % (s.last + 1) = y at *
      generalize a % 4 = g at *
      have c6 : IntKind.i64.wrap (s.near + 1 + g) = s.near + 1 + g := w64 (by omega) (by omega)
      obtain ⟨m, rfl⟩ : ∃ k : Nat, y = k := ⟨y.toNat, by omega⟩
      have he := fun G => (hvb.app G).elems
      have hf := fun G => (hvt.app G).elems
      have hadB : ∀ A : AV, addElem (H ++ [.box A, .box A, .box A, .box A, .box A]) 6 true (.sl true []) (s.bs.map Blk.av) = some (.gsl (H.length + 5) s.bs.length, H ++ [.box A, .box A, .box A, .box A, .box A, .grow 6 (s.bs.map Blk.av)]) := by
        intro A
        rw [add_full rfl rfl (elemsOk_map (fun _ => rfl) _) (ltL_map (fun _ => rfl) _) (by simp; omega) rfl]
        simp
      have hadT : ∀ A : AV, addElem (H ++ [.box A, .box A, .box A, .box A, .box A, .grow 6 (s.bs.map Blk.av)]) 4 true (.sl true []) (s.ts.map Tch.av) = some (.gsl (H.length + 6) s.ts.length, H ++ [.box A, .box A, .box A, .box A, .box A, .grow 6 (s.bs.map Blk.av), .grow 4 (s.ts.map Tch.av)]) := by
        intro A
        rw [add_full rfl rfl (elemsOk_map (fun _ => rfl) _) (ltL_map (fun _ => rfl) _) (by simp; omega) rfl]
        simp
      simp only [go_sem, ↓reduceIte, Nat.reduceEqDiff, Nat.reduceAdd, Nat.reduceLeDiff, Nat.reduceBEq, Nat.reduceMul, Nat.reduceLT, Int.reduceLT, Int.reduceLE, Int.reduceToNat, Int.reduceNeg, Int.reduceEq, Int.reduceMul, reduceCtorEq, Int.reduceBEq, Int.reduceBNe, Int.reduceAdd, Int.reduceSub, bne_self_eq_false, beq_self_eq_true, Nat.le_add_right, eqOk, fn11, res11, gc11_0, gc11_1, gc11_2, gc11_3, gc11_4, gc11_5, gc11_6, gc11_7, gc11_8, gc11_9, gc11_10, gc11_11, gc11_12, gc11_13, gc11_14, gc11_15, gc11_16, gc11_17, gc11_18, gc11_19, gc11_20, gc11_21, gc11_22, gc11_23, gc11_24, gc11_25, gc11_26, gc11_27, gc11_28, gc11_29, gc11_30, gc11_31, gc11_32, gc11_33, gc11_34, gc11_35, gc11_36, gc11_37, gc11_38, gc11_39, gc11_40, gc11_41, gc11_42, gc11_43, gc11_44, gc11_45, gc11_46, gc11_47, gc11_48, gc11_49, gc11_50, gc11_51, gc11_52, gc11_53, gc11_54, gc11_55, gc11_56, gc11_57, gc11_58, gc11_59, gc11_60, gc11_61, gc11_62, gc11_63, gc11_64, gc11_65, gc11_66, gc11_67, gcSt, keepEnv, envLt, heapLt, dfrLt, ADefer.lt, grow11_8, grow11_9, grow11_10, grow11_11, grow11_12, grow11_13, grow11_14, grow11_15, grow11_17, grow11_18, grow11_19, grow11_20, grow11_21, grow11_22, grow11_23, grow11_24, grow11_25, grow11_26, grow11_27, grow11_28, grow11_29, grow11_30, grow11_31, grow11_32, grow11_33, grow11_34, grow11_35, grow11_36, grow11_37, grow11_38, grow11_39, grow11_40, grow11_41, grow11_42, grow11_43, grow11_44, grow11_45, grow11_46, grow11_79, grow11_80, grow11_86, grow11_95, grow11_131, grow11_144, grow11_153, grow11_154, grow11_155, grow11_156, grow11_173, grow11_179, grow11_208, grow11_218, grow11_224, ty3, ty5, ty22, ty23, ty25, ty29, ty30, ty38, ty56, ty63, plan11_3, plan11_4, plan11_5, plan11_10, plan11_12, plan11_13, plan11_31, plan11_49, plan11_58, plan11_64, eqt29, eqt56, eqt63, sb, st, hL, hl, hV, hv]
      rw [chkK_of]; rotate_left; kernel_rfl
      simp only [go_sem, ↓reduceIte, Nat.reduceEqDiff, Nat.reduceAdd, Nat.reduceLeDiff, Nat.reduceBEq, Nat.reduceMul, Nat.reduceLT, Int.reduceLT, Int.reduceLE, Int.reduceToNat, Int.reduceNeg, Int.reduceEq, Int.reduceMul, reduceCtorEq, Int.reduceBEq, Int.reduceBNe, Int.reduceAdd, Int.reduceSub, bne_self_eq_false, beq_self_eq_true, Nat.le_add_right, eqOk, fn11, res11, gc11_0, gc11_1, gc11_2, gc11_3, gc11_4, gc11_5, gc11_6, gc11_7, gc11_8, gc11_9, gc11_10, gc11_11, gc11_12, gc11_13, gc11_14, gc11_15, gc11_16, gc11_17, gc11_18, gc11_19, gc11_20, gc11_21, gc11_22, gc11_23, gc11_24, gc11_25, gc11_26, gc11_27, gc11_28, gc11_29, gc11_30, gc11_31, gc11_32, gc11_33, gc11_34, gc11_35, gc11_36, gc11_37, gc11_38, gc11_39, gc11_40, gc11_41, gc11_42, gc11_43, gc11_44, gc11_45, gc11_46, gc11_47, gc11_48, gc11_49, gc11_50, gc11_51, gc11_52, gc11_53, gc11_54, gc11_55, gc11_56, gc11_57, gc11_58, gc11_59, gc11_60, gc11_61, gc11_62, gc11_63, gc11_64, gc11_65, gc11_66, gc11_67, gcSt, keepEnv, envLt, heapLt, dfrLt, ADefer.lt, grow11_8, grow11_9, grow11_10, grow11_11, grow11_12, grow11_13, grow11_14, grow11_15, grow11_17, grow11_18, grow11_19, grow11_20, grow11_21, grow11_22, grow11_23, grow11_24, grow11_25, grow11_26, grow11_27, grow11_28, grow11_29, grow11_30, grow11_31, grow11_32, grow11_33, grow11_34, grow11_35, grow11_36, grow11_37, grow11_38, grow11_39, grow11_40, grow11_41, grow11_42, grow11_43, grow11_44, grow11_45, grow11_46, grow11_79, grow11_80, grow11_86, grow11_95, grow11_131, grow11_144, grow11_153, grow11_154, grow11_155, grow11_156, grow11_173, grow11_179, grow11_208, grow11_218, grow11_224, ty3, ty5, ty22, ty23, ty25, ty29, ty30, ty38, ty56, ty63, plan11_3, plan11_4, plan11_5, plan11_10, plan11_12, plan11_13, plan11_31, plan11_49, plan11_58, plan11_64, eqt29, eqt56, eqt63, sb, st, hvb.len, List.length_map, c1, c2, z1, z3, c4, t1, t2]
      rw [chkK_of]; rotate_left; kernel_rfl
      simp only [go_sem, ↓reduceIte, Nat.reduceEqDiff, Nat.reduceAdd, Nat.reduceLeDiff, Nat.reduceBEq, Nat.reduceMul, Nat.reduceLT, Int.reduceLT, Int.reduceLE, Int.reduceToNat, Int.reduceNeg, Int.reduceEq, Int.reduceMul, reduceCtorEq, Int.reduceBEq, Int.reduceBNe, Int.reduceAdd, Int.reduceSub, bne_self_eq_false, beq_self_eq_true, Nat.le_add_right, eqOk, fn11, res11, gc11_0, gc11_1, gc11_2, gc11_3, gc11_4, gc11_5, gc11_6, gc11_7, gc11_8, gc11_9, gc11_10, gc11_11, gc11_12, gc11_13, gc11_14, gc11_15, gc11_16, gc11_17, gc11_18, gc11_19, gc11_20, gc11_21, gc11_22, gc11_23, gc11_24, gc11_25, gc11_26, gc11_27, gc11_28, gc11_29, gc11_30, gc11_31, gc11_32, gc11_33, gc11_34, gc11_35, gc11_36, gc11_37, gc11_38, gc11_39, gc11_40, gc11_41, gc11_42, gc11_43, gc11_44, gc11_45, gc11_46, gc11_47, gc11_48, gc11_49, gc11_50, gc11_51, gc11_52, gc11_53, gc11_54, gc11_55, gc11_56, gc11_57, gc11_58, gc11_59, gc11_60, gc11_61, gc11_62, gc11_63, gc11_64, gc11_65, gc11_66, gc11_67, gcSt, keepEnv, envLt, heapLt, dfrLt, ADefer.lt, grow11_8, grow11_9, grow11_10, grow11_11, grow11_12, grow11_13, grow11_14, grow11_15, grow11_17, grow11_18, grow11_19, grow11_20, grow11_21, grow11_22, grow11_23, grow11_24, grow11_25, grow11_26, grow11_27, grow11_28, grow11_29, grow11_30, grow11_31, grow11_32, grow11_33, grow11_34, grow11_35, grow11_36, grow11_37, grow11_38, grow11_39, grow11_40, grow11_41, grow11_42, grow11_43, grow11_44, grow11_45, grow11_46, grow11_79, grow11_80, grow11_86, grow11_95, grow11_131, grow11_144, grow11_153, grow11_154, grow11_155, grow11_156, grow11_173, grow11_179, grow11_208, grow11_218, grow11_224, ty3, ty5, ty22, ty23, ty25, ty29, ty30, ty38, ty56, ty63, plan11_3, plan11_4, plan11_5, plan11_10, plan11_12, plan11_13, plan11_31, plan11_49, plan11_58, plan11_64, eqt29, eqt56, eqt63, sb, st]
      rw [chkK_of]; rotate_left; kernel_rfl
      have hidx : ∀ (te : Ty) (o0 o1 o2 o3 o4 : AO) (xs : List AV) (G : Heap), te.size = 6 → xs.length = s.bs.length → idxAddr (H ++ (o0 :: o1 :: o2 :: o3 :: o4 :: .grow 6 xs :: G)) te (.gsl (H.length + 5) s.bs.length) b = some (.eptr (H.length + 5) s.bs.length b.toNat 0) := by
        intro te o0 o1 o2 o3 o4 xs G hte hxl
        simp only [idxAddr, get_at', List.getElem?_cons_succ, List.getElem?_cons_zero, hxl, hte]
        rw [if_pos ⟨trivial, m1.1, by omega, trivial⟩]
      obtain ⟨h0, hbk⟩ := Stl.inB_blk (inB_of (s := s) m1)
      have hbt : b.toNat < (s.bs.map Blk.av).length := by simp; omega
      have hxs : (s.bs.map Blk.av)[b.toNat]? = some (.agg [I (s.blk b).x0, I (s.blk b).x1, I (s.blk b).s0, I (s.blk b).s1, I (s.blk b).g0, I (s.blk b).g1]) := by rw [List.getElem?_map, hbk]; rfl
      have hset : ∀ a : AV, ((s.bs.map Blk.av).set b.toNat a)[b.toNat]? = some a := fun a => List.getElem?_set_self hbt
      have hbo := hwf.bs (s.blk b) (List.mem_of_getElem? hbk)
      have k1 := hbo.a1; have k2 := hbo.a2; have k3 := hbo.a3; have k4 := hbo.a4; have k5 := hbo.a5; have k6 := hbo.a6
      have hnear : s.near ≤ mn 20 (s.near + 1 + g) ∧ mn 20 (s.near + 1 + g) ≤ 20 := by simp only [mn]; split <;> omega
      have fin := fun X hXv hN hXb hXt => More_fin (H := H) (vb := vb) (vt := vt) s X hv hXv hvb hvt _ hnear b m1 m (by omega) hN hXb hXt
      simp only [moreH, List.cons_append, List.nil_append, List.map_nil] at fin
      have d1 : 0 ≤ a / 3 ∧ a / 3 ≤ 255 := by omega
      have d2 : 0 ≤ a % 3 ∧ a % 3 < 3 := by omega
      have d3 : 0 ≤ a / 3 % 2 ∧ a / 3 % 2 < 2 := by omega
      have c7 : IntKind.u8.wrap (a / 3) = a / 3 := wu8 (by omega)
      have c8 : IntKind.u8.wrap (a % 3) = a % 3 := wu8 (by omega)
      have c9 : IntKind.u8.wrap (a / 3 % 2) = a / 3 % 2 := wu8 (by omega)
      have x1 : IntKind.i64.wrap ((s.blk b).x0 + 1) = (s.blk b).x0 + 1 := w64 (by omega) (by omega)
      have x2 : IntKind.i64.wrap ((s.blk b).x1 - 1) = (s.blk b).x1 - 1 := w64 (by omega) (by omega)
      have x3 : IntKind.i64.wrap ((s.blk b).s0 + 1) = (s.blk b).s0 + 1 := w64 (by omega) (by omega)
      have x4 : IntKind.i64.wrap ((s.blk b).s1 - 1) = (s.blk b).s1 - 1 := w64 (by omega) (by omega)
      have y1 := mn_bd k2
      have y2 := mx_bd k2
      have y3 := mn_bd k5
      have y4 := mx_bd k5
      have k7 := hbo.a7; have k8 := hbo.a8; have k9 := hbo.a9
      generalize a / 3 % 2 = d at *
      generalize a % 3 = r at *
      have hr : r = 0 ∨ r = 1 ∨ r = 2 := by omega
      have hd : d = 0 ∨ d = 1 := by omega
      simp only [mn] at fin
      rcases hr with rfl | rfl | rfl
      · rcases hd with rfl | rfl
        · have F := fin { s with bs := s.bs.set b.toNat ⟨mn (s.blk b).x1 ((s.blk b).x0 + 1), (s.blk b).x1, (s.blk b).s0, (s.blk b).s1, (s.blk b).g0, (s.blk b).g1⟩ } (nar_blk hv m1 ⟨mn (s.blk b).x1 ((s.blk b).x0 + 1), (s.blk b).x1, (s.blk b).s0, (s.blk b).s1, (s.blk b).g0, (s.blk b).g1⟩ ⟨by dsimp only; omega, by dsimp only; omega, by dsimp only; omega, by dsimp only; omega, by dsimp only; omega, by dsimp only; omega, by dsimp only; omega, by dsimp only; omega, by dsimp only; omega⟩ (by dsimp only; omega) (by dsimp only; omega) (by dsimp only; omega) (by dsimp only; omega)).1 (nar_blk hv m1 ⟨mn (s.blk b).x1 ((s.blk b).x0 + 1), (s.blk b).x1, (s.blk b).s0, (s.blk b).s1, (s.blk b).g0, (s.blk b).g1⟩ ⟨by dsimp only; omega, by dsimp only; omega, by dsimp only; omega, by dsimp only; omega, by dsimp only; omega, by dsimp only; omega, by dsimp only; omega, by dsimp only; omega, by dsimp only; omega⟩ (by dsimp only; omega) (by dsimp only; omega) (by dsimp only; omega) (by dsimp only; omega)).2 (List.length_set ..) rfl
          simp only [List.map_set, Blk.av] at F
          simp only [go_sem, ↓reduceIte, Nat.reduceEqDiff, Nat.reduceAdd, Nat.reduceLeDiff, Nat.reduceBEq, Nat.reduceMul, Nat.reduceLT, Int.reduceLT, Int.reduceLE, Int.reduceToNat, Int.reduceNeg, Int.reduceEq, Int.reduceMul, reduceCtorEq, Int.reduceBEq, Int.reduceBNe, Int.reduceAdd, Int.reduceSub, bne_self_eq_false, beq_self_eq_true, Nat.le_add_right, eqOk, fn11, res11, gc11_0, gc11_1, gc11_2, gc11_3, gc11_4, gc11_5, gc11_6, gc11_7, gc11_8, gc11_9, gc11_10, gc11_11, gc11_12, gc11_13, gc11_14, gc11_15, gc11_16, gc11_17, gc11_18, gc11_19, gc11_20, gc11_21, gc11_22, gc11_23, gc11_24, gc11_25, gc11_26, gc11_27, gc11_28, gc11_29, gc11_30, gc11_31, gc11_32, gc11_33, gc11_34, gc11_35, gc11_36, gc11_37, gc11_38, gc11_39, gc11_40, gc11_41, gc11_42, gc11_43, gc11_44, gc11_45, gc11_46, gc11_47, gc11_48, gc11_49, gc11_50, gc11_51, gc11_52, gc11_53, gc11_54, gc11_55, gc11_56, gc11_57, gc11_58, gc11_59, gc11_60, gc11_61, gc11_62, gc11_63, gc11_64, gc11_65, gc11_66, gc11_67, gcSt, keepEnv, envLt, heapLt, dfrLt, ADefer.lt, grow11_8, grow11_9, grow11_10, grow11_11, grow11_12, grow11_13, grow11_14, grow11_15, grow11_17, grow11_18, grow11_19, grow11_20, grow11_21, grow11_22, grow11_23, grow11_24, grow11_25, grow11_26, grow11_27, grow11_28, grow11_29, grow11_30, grow11_31, grow11_32, grow11_33, grow11_34, grow11_35, grow11_36, grow11_37, grow11_38, grow11_39, grow11_40, grow11_41, grow11_42, grow11_43, grow11_44, grow11_45, grow11_46, grow11_79, grow11_80, grow11_86, grow11_95, grow11_131, grow11_144, grow11_153, grow11_154, grow11_155, grow11_156, grow11_173, grow11_179, grow11_208, grow11_218, grow11_224, ty3, ty5, ty22, ty23, ty25, ty29, ty30, ty38, ty56, ty63, plan11_3, plan11_4, plan11_5, plan11_10, plan11_12, plan11_13, plan11_31, plan11_49, plan11_58, plan11_64, eqt29, eqt56, eqt63, sb, st, he, hf, hadB, hadT, hidx, hxs, hset, hvb.len, List.length_map, List.length_set, List.set_set, hbt, t3, t4, t5, t6, c3, c5, c6, c7, c8, c9, x1, x2, x3, x4]
          rw [chkK_of]; rotate_left; kernel_rfl
          simp only [go_sem, ↓reduceIte, Nat.reduceEqDiff, Nat.reduceAdd, Nat.reduceLeDiff, Nat.reduceBEq, Nat.reduceMul, Nat.reduceLT, Int.reduceLT, Int.reduceLE, Int.reduceToNat, Int.reduceNeg, Int.reduceEq, Int.reduceMul, reduceCtorEq, Int.reduceBEq, Int.reduceBNe, Int.reduceAdd, Int.reduceSub, bne_self_eq_false, beq_self_eq_true, Nat.le_add_right, eqOk, fn11, res11, gc11_0, gc11_1, gc11_2, gc11_3, gc11_4, gc11_5, gc11_6, gc11_7, gc11_8, gc11_9, gc11_10, gc11_11, gc11_12, gc11_13, gc11_14, gc11_15, gc11_16, gc11_17, gc11_18, gc11_19, gc11_20, gc11_21, gc11_22, gc11_23, gc11_24, gc11_25, gc11_26, gc11_27, gc11_28, gc11_29, gc11_30, gc11_31, gc11_32, gc11_33, gc11_34, gc11_35, gc11_36, gc11_37, gc11_38, gc11_39, gc11_40, gc11_41, gc11_42, gc11_43, gc11_44, gc11_45, gc11_46, gc11_47, gc11_48, gc11_49, gc11_50, gc11_51, gc11_52, gc11_53, gc11_54, gc11_55, gc11_56, gc11_57, gc11_58, gc11_59, gc11_60, gc11_61, gc11_62, gc11_63, gc11_64, gc11_65, gc11_66, gc11_67, gcSt, keepEnv, envLt, heapLt, dfrLt, ADefer.lt, grow11_8, grow11_9, grow11_10, grow11_11, grow11_12, grow11_13, grow11_14, grow11_15, grow11_17, grow11_18, grow11_19, grow11_20, grow11_21, grow11_22, grow11_23, grow11_24, grow11_25, grow11_26, grow11_27, grow11_28, grow11_29, grow11_30, grow11_31, grow11_32, grow11_33, grow11_34, grow11_35, grow11_36, grow11_37, grow11_38, grow11_39, grow11_40, grow11_41, grow11_42, grow11_43, grow11_44, grow11_45, grow11_46, grow11_79, grow11_80, grow11_86, grow11_95, grow11_131, grow11_144, grow11_153, grow11_154, grow11_155, grow11_156, grow11_173, grow11_179, grow11_208, grow11_218, grow11_224, ty3, ty5, ty22, ty23, ty25, ty29, ty30, ty38, ty56, ty63, plan11_3, plan11_4, plan11_5, plan11_10, plan11_12, plan11_13, plan11_31, plan11_49, plan11_58, plan11_64, eqt29, eqt56, eqt63, sb, st, he, hf, hadB, hadT, hidx, hxs, hset, hvb.len, List.length_map, List.length_set, List.set_set, hbt, t3, t4, t5, t6, c3, c5, c6, c7, c8, c9, x1, x2, x3, x4]
          exact F _ [] (by rfl) (by rfl) (by rfl) (by rfl) (by rfl) (by rfl) (by rfl) (by rfl) (by rfl) (by rfl)
        · have F := fin { s with bs := s.bs.set b.toNat ⟨(s.blk b).x0, mx (s.blk b).x0 ((s.blk b).x1 - 1), (s.blk b).s0, (s.blk b).s1, (s.blk b).g0, (s.blk b).g1⟩ } (nar_blk hv m1 ⟨(s.blk b).x0, mx (s.blk b).x0 ((s.blk b).x1 - 1), (s.blk b).s0, (s.blk b).s1, (s.blk b).g0, (s.blk b).g1⟩ ⟨by dsimp only; omega, by dsimp only; omega, by dsimp only; omega, by dsimp only; omega, by dsimp only; omega, by dsimp only; omega, by dsimp only; omega, by dsimp only; omega, by dsimp only; omega⟩ (by dsimp only; omega) (by dsimp only; omega) (by dsimp only; omega) (by dsimp only; omega)).1 (nar_blk hv m1 ⟨(s.blk b).x0, mx (s.blk b).x0 ((s.blk b).x1 - 1), (s.blk b).s0, (s.blk b).s1, (s.blk b).g0, (s.blk b).g1⟩ ⟨by dsimp only; omega, by dsimp only; omega, by dsimp only; omega, by dsimp only; omega, by dsimp only; omega, by dsimp only; omega, by dsimp only; omega, by dsimp only; omega, by dsimp only; omega⟩ (by dsimp only; omega) (by dsimp only; omega) (by dsimp only; omega) (by dsimp only; omega)).2 (List.length_set ..) rfl
          simp only [List.map_set, Blk.av] at F
          simp only [go_sem, ↓reduceIte, Nat.reduceEqDiff, Nat.reduceAdd, Nat.reduceLeDiff, Nat.reduceBEq, Nat.reduceMul, Nat.reduceLT, Int.reduceLT, Int.reduceLE, Int.reduceToNat, Int.reduceNeg, Int.reduceEq, Int.reduceMul, reduceCtorEq, Int.reduceBEq, Int.reduceBNe, Int.reduceAdd, Int.reduceSub, bne_self_eq_false, beq_self_eq_true, Nat.le_add_right, eqOk, fn11, res11, gc11_0, gc11_1, gc11_2, gc11_3, gc11_4, gc11_5, gc11_6, gc11_7, gc11_8, gc11_9, gc11_10, gc11_11, gc11_12, gc11_13, gc11_14, gc11_15, gc11_16, gc11_17, gc11_18, gc11_19, gc11_20, gc11_21, gc11_22, gc11_23, gc11_24, gc11_25, gc11_26, gc11_27, gc11_28, gc11_29, gc11_30, gc11_31, gc11_32, gc11_33, gc11_34, gc11_35, gc11_36, gc11_37, gc11_38, gc11_39, gc11_40, gc11_41, gc11_42, gc11_43, gc11_44, gc11_45, gc11_46, gc11_47, gc11_48, gc11_49, gc11_50, gc11_51, gc11_52, gc11_53, gc11_54, gc11_55, gc11_56, gc11_57, gc11_58, gc11_59, gc11_60, gc11_61, gc11_62, gc11_63, gc11_64, gc11_65, gc11_66, gc11_67, gcSt, keepEnv, envLt, heapLt, dfrLt, ADefer.lt, grow11_8, grow11_9, grow11_10, grow11_11, grow11_12, grow11_13, grow11_14, grow11_15, grow11_17, grow11_18, grow11_19, grow11_20, grow11_21, grow11_22, grow11_23, grow11_24, grow11_25, grow11_26, grow11_27, grow11_28, grow11_29, grow11_30, grow11_31, grow11_32, grow11_33, grow11_34, grow11_35, grow11_36, grow11_37, grow11_38, grow11_39, grow11_40, grow11_41, grow11_42, grow11_43, grow11_44, grow11_45, grow11_46, grow11_79, grow11_80, grow11_86, grow11_95, grow11_131, grow11_144, grow11_153, grow11_154, grow11_155, grow11_156, grow11_173, grow11_179, grow11_208, grow11_218, grow11_224, ty3, ty5, ty22, ty23, ty25, ty29, ty30, ty38, ty56, ty63, plan11_3, plan11_4, plan11_5, plan11_10, plan11_12, plan11_13, plan11_31, plan11_49, plan11_58, plan11_64, eqt29, eqt56, eqt63, sb, st, he, hf, hadB, hadT, hidx, hxs, hset, hvb.len, List.length_map, List.length_set, List.set_set, hbt, t3, t4, t5, t6, c3, c5, c6, c7, c8, c9, x1, x2, x3, x4]
          rw [chkK_of]; rotate_left; kernel_rfl
          simp only [go_sem, ↓reduceIte, Nat.reduceEqDiff, Nat.reduceAdd, Nat.reduceLeDiff, Nat.reduceBEq, Nat.reduceMul, Nat.reduceLT, Int.reduceLT, Int.reduceLE, Int.reduceToNat, Int.reduceNeg, Int.reduceEq, Int.reduceMul, reduceCtorEq, Int.reduceBEq, Int.reduceBNe, Int.reduceAdd, Int.reduceSub, bne_self_eq_false, beq_self_eq_true, Nat.le_add_right, eqOk, fn11, res11, gc11_0, gc11_1, gc11_2, gc11_3, gc11_4, gc11_5, gc11_6, gc11_7, gc11_8, gc11_9, gc11_10, gc11_11, gc11_12, gc11_13, gc11_14, gc11_15, gc11_16, gc11_17, gc11_18, gc11_19, gc11_20, gc11_21, gc11_22, gc11_23, gc11_24, gc11_25, gc11_26, gc11_27, gc11_28, gc11_29, gc11_30, gc11_31, gc11_32, gc11_33, gc11_34, gc11_35, gc11_36, gc11_37, gc11_38, gc11_39, gc11_40, gc11_41, gc11_42, gc11_43, gc11_44, gc11_45, gc11_46, gc11_47, gc11_48, gc11_49, gc11_50, gc11_51, gc11_52, gc11_53, gc11_54, gc11_55, gc11_56, gc11_57, gc11_58, gc11_59, gc11_60, gc11_61, gc11_62, gc11_63, gc11_64, gc11_65, gc11_66, gc11_67, gcSt, keepEnv, envLt, heapLt, dfrLt, ADefer.lt, grow11_8, grow11_9, grow11_10, grow11_11, grow11_12, grow11_13, grow11_14, grow11_15, grow11_17, grow11_18, grow11_19, grow11_20, grow11_21, grow11_22, grow11_23, grow11_24, grow11_25, grow11_26, grow11_27, grow11_28, grow11_29, grow11_30, grow11_31, grow11_32, grow11_33, grow11_34, grow11_35, grow11_36, grow11_37, grow11_38, grow11_39, grow11_40, grow11_41, grow11_42, grow11_43, grow11_44, grow11_45, grow11_46, grow11_79, grow11_80, grow11_86, grow11_95, grow11_131, grow11_144, grow11_153, grow11_154, grow11_155, grow11_156, grow11_173, grow11_179, grow11_208, grow11_218, grow11_224, ty3, ty5, ty22, ty23, ty25, ty29, ty30, ty38, ty56, ty63, plan11_3, plan11_4, plan11_5, plan11_10, plan11_12, plan11_13, plan11_31, plan11_49, plan11_58, plan11_64, eqt29, eqt56, eqt63, sb, st, he, hf, hadB, hadT, hidx, hxs, hset, hvb.len, List.length_map, List.length_set, List.set_set, hbt, t3, t4, t5, t6, c3, c5, c6, c7, c8, c9, x1, x2, x3, x4]
          exact F _ [] (by rfl) (by rfl) (by rfl) (by rfl) (by rfl) (by rfl) (by rfl) (by rfl) (by rfl) (by rfl)
      · rcases hd with rfl | rfl
        · have F := fin { s with bs := s.bs.set b.toNat ⟨(s.blk b).x0, (s.blk b).x1, mn (s.blk b).s1 ((s.blk b).s0 + 1), (s.blk b).s1, (s.blk b).g0, (s.blk b).g1⟩ } (nar_blk hv m1 ⟨(s.blk b).x0, (s.blk b).x1, mn (s.blk b).s1 ((s.blk b).s0 + 1), (s.blk b).s1, (s.blk b).g0, (s.blk b).g1⟩ ⟨by dsimp only; omega, by dsimp only; omega, by dsimp only; omega, by dsimp only; omega, by dsimp only; omega, by dsimp only; omega, by dsimp only; omega, by dsimp only; omega, by dsimp only; omega⟩ (by dsimp only; omega) (by dsimp only; omega) (by dsimp only; omega) (by dsimp only; omega)).1 (nar_blk hv m1 ⟨(s.blk b).x0, (s.blk b).x1, mn (s.blk b).s1 ((s.blk b).s0 + 1), (s.blk b).s1, (s.blk b).g0, (s.blk b).g1⟩ ⟨by dsimp only; omega, by dsimp only; omega, by dsimp only; omega, by dsimp only; omega, by dsimp only; omega, by dsimp only; omega, by dsimp only; omega, by dsimp only; omega, by dsimp only; omega⟩ (by dsimp only; omega) (by dsimp only; omega) (by dsimp only; omega) (by dsimp only; omega)).2 (List.length_set ..) rfl
          simp only [List.map_set, Blk.av] at F
          simp only [go_sem, ↓reduceIte, Nat.reduceEqDiff, Nat.reduceAdd, Nat.reduceLeDiff, Nat.reduceBEq, Nat.reduceMul, Nat.reduceLT, Int.reduceLT, Int.reduceLE, Int.reduceToNat, Int.reduceNeg, Int.reduceEq, Int.reduceMul, reduceCtorEq, Int.reduceBEq, Int.reduceBNe, Int.reduceAdd, Int.reduceSub, bne_self_eq_false, beq_self_eq_true, Nat.le_add_right, eqOk, fn11, res11, gc11_0, gc11_1, gc11_2, gc11_3, gc11_4, gc11_5, gc11_6, gc11_7, gc11_8, gc11_9, gc11_10, gc11_11, gc11_12, gc11_13, gc11_14, gc11_15, gc11_16, gc11_17, gc11_18, gc11_19, gc11_20, gc11_21, gc11_22, gc11_23, gc11_24, gc11_25, gc11_26, gc11_27, gc11_28, gc11_29, gc11_30, gc11_31, gc11_32, gc11_33, gc11_34, gc11_35, gc11_36, gc11_37, gc11_38, gc11_39, gc11_40, gc11_41, gc11_42, gc11_43, gc11_44, gc11_45, gc11_46, gc11_47, gc11_48, gc11_49, gc11_50, gc11_51, gc11_52, gc11_53, gc11_54, gc11_55, gc11_56, gc11_57, gc11_58, gc11_59, gc11_60, gc11_61, gc11_62, gc11_63, gc11_64, gc11_65, gc11_66, gc11_67, gcSt, keepEnv, envLt, heapLt, dfrLt, ADefer.lt, grow11_8, grow11_9, grow11_10, grow11_11, grow11_12, grow11_13, grow11_14, grow11_15, grow11_17, grow11_18, grow11_19, grow11_20, grow11_21, grow11_22, grow11_23, grow11_24, grow11_25, grow11_26, grow11_27, grow11_28, grow11_29, grow11_30, grow11_31, grow11_32, grow11_33, grow11_34, grow11_35, grow11_36, grow11_37, grow11_38, grow11_39, grow11_40, grow11_41, grow11_42, grow11_43, grow11_44, grow11_45, grow11_46, grow11_79, grow11_80, grow11_86, grow11_95, grow11_131, grow11_144, grow11_153, grow11_154, grow11_155, grow11_156, grow11_173, grow11_179, grow11_208, grow11_218, grow11_224, ty3, ty5, ty22, ty23, ty25, ty29, ty30, ty38, ty56, ty63, plan11_3, plan11_4, plan11_5, plan11_10, plan11_12, plan11_13, plan11_31, plan11_49, plan11_58, plan11_64, eqt29, eqt56, eqt63, sb, st, he, hf, hadB, hadT, hidx, hxs, hset, hvb.len, List.length_map, List.length_set, List.set_set, hbt, t3, t4, t5, t6, c3, c5, c6, c7, c8, c9, x1, x2, x3, x4]
          rw [chkK_of]; rotate_left; kernel_rfl
          simp only [go_sem, ↓reduceIte, Nat.reduceEqDiff, Nat.reduceAdd, Nat.reduceLeDiff, Nat.reduceBEq, Nat.reduceMul, Nat.reduceLT, Int.reduceLT, Int.reduceLE, Int.reduceToNat, Int.reduceNeg, Int.reduceEq, Int.reduceMul, reduceCtorEq, Int.reduceBEq, Int.reduceBNe, Int.reduceAdd, Int.reduceSub, bne_self_eq_false, beq_self_eq_true, Nat.le_add_right, eqOk, fn11, res11, gc11_0, gc11_1, gc11_2, gc11_3, gc11_4, gc11_5, gc11_6, gc11_7, gc11_8, gc11_9, gc11_10, gc11_11, gc11_12, gc11_13, gc11_14, gc11_15, gc11_16, gc11_17, gc11_18, gc11_19, gc11_20, gc11_21, gc11_22, gc11_23, gc11_24, gc11_25, gc11_26, gc11_27, gc11_28, gc11_29, gc11_30, gc11_31, gc11_32, gc11_33, gc11_34, gc11_35, gc11_36, gc11_37, gc11_38, gc11_39, gc11_40, gc11_41, gc11_42, gc11_43, gc11_44, gc11_45, gc11_46, gc11_47, gc11_48, gc11_49, gc11_50, gc11_51, gc11_52, gc11_53, gc11_54, gc11_55, gc11_56, gc11_57, gc11_58, gc11_59, gc11_60, gc11_61, gc11_62, gc11_63, gc11_64, gc11_65, gc11_66, gc11_67, gcSt, keepEnv, envLt, heapLt, dfrLt, ADefer.lt, grow11_8, grow11_9, grow11_10, grow11_11, grow11_12, grow11_13, grow11_14, grow11_15, grow11_17, grow11_18, grow11_19, grow11_20, grow11_21, grow11_22, grow11_23, grow11_24, grow11_25, grow11_26, grow11_27, grow11_28, grow11_29, grow11_30, grow11_31, grow11_32, grow11_33, grow11_34, grow11_35, grow11_36, grow11_37, grow11_38, grow11_39, grow11_40, grow11_41, grow11_42, grow11_43, grow11_44, grow11_45, grow11_46, grow11_79, grow11_80, grow11_86, grow11_95, grow11_131, grow11_144, grow11_153, grow11_154, grow11_155, grow11_156, grow11_173, grow11_179, grow11_208, grow11_218, grow11_224, ty3, ty5, ty22, ty23, ty25, ty29, ty30, ty38, ty56, ty63, plan11_3, plan11_4, plan11_5, plan11_10, plan11_12, plan11_13, plan11_31, plan11_49, plan11_58, plan11_64, eqt29, eqt56, eqt63, sb, st, he, hf, hadB, hadT, hidx, hxs, hset, hvb.len, List.length_map, List.length_set, List.set_set, hbt, t3, t4, t5, t6, c3, c5, c6, c7, c8, c9, x1, x2, x3, x4]
          exact F _ [] (by rfl) (by rfl) (by rfl) (by rfl) (by rfl) (by rfl) (by rfl) (by rfl) (by rfl) (by rfl)
        · have F := fin { s with bs := s.bs.set b.toNat ⟨(s.blk b).x0, (s.blk b).x1, (s.blk b).s0, mx (s.blk b).s0 ((s.blk b).s1 - 1), (s.blk b).g0, (s.blk b).g1⟩ } (nar_blk hv m1 ⟨(s.blk b).x0, (s.blk b).x1, (s.blk b).s0, mx (s.blk b).s0 ((s.blk b).s1 - 1), (s.blk b).g0, (s.blk b).g1⟩ ⟨by dsimp only; omega, by dsimp only; omega, by dsimp only; omega, by dsimp only; omega, by dsimp only; omega, by dsimp only; omega, by dsimp only; omega, by dsimp only; omega, by dsimp only; omega⟩ (by dsimp only; omega) (by dsimp only; omega) (by dsimp only; omega) (by dsimp only; omega)).1 (nar_blk hv m1 ⟨(s.blk b).x0, (s.blk b).x1, (s.blk b).s0, mx (s.blk b).s0 ((s.blk b).s1 - 1), (s.blk b).g0, (s.blk b).g1⟩ ⟨by dsimp only; omega, by dsimp only; omega, by dsimp only; omega, by dsimp only; omega, by dsimp only; omega, by dsimp only; omega, by dsimp only; omega, by dsimp only; omega, by dsimp only; omega⟩ (by dsimp only; omega) (by dsimp only; omega) (by dsimp only; omega) (by dsimp only; omega)).2 (List.length_set ..) rfl
          simp only [List.map_set, Blk.av] at F
          simp only [go_sem, ↓reduceIte, Nat.reduceEqDiff, Nat.reduceAdd, Nat.reduceLeDiff, Nat.reduceBEq, Nat.reduceMul, Nat.reduceLT, Int.reduceLT, Int.reduceLE, Int.reduceToNat, Int.reduceNeg, Int.reduceEq, Int.reduceMul, reduceCtorEq, Int.reduceBEq, Int.reduceBNe, Int.reduceAdd, Int.reduceSub, bne_self_eq_false, beq_self_eq_true, Nat.le_add_right, eqOk, fn11, res11, gc11_0, gc11_1, gc11_2, gc11_3, gc11_4, gc11_5, gc11_6, gc11_7, gc11_8, gc11_9, gc11_10, gc11_11, gc11_12, gc11_13, gc11_14, gc11_15, gc11_16, gc11_17, gc11_18, gc11_19, gc11_20, gc11_21, gc11_22, gc11_23, gc11_24, gc11_25, gc11_26, gc11_27, gc11_28, gc11_29, gc11_30, gc11_31, gc11_32, gc11_33, gc11_34, gc11_35, gc11_36, gc11_37, gc11_38, gc11_39, gc11_40, gc11_41, gc11_42, gc11_43, gc11_44, gc11_45, gc11_46, gc11_47, gc11_48, gc11_49, gc11_50, gc11_51, gc11_52, gc11_53, gc11_54, gc11_55, gc11_56, gc11_57, gc11_58, gc11_59, gc11_60, gc11_61, gc11_62, gc11_63, gc11_64, gc11_65, gc11_66, gc11_67, gcSt, keepEnv, envLt, heapLt, dfrLt, ADefer.lt, grow11_8, grow11_9, grow11_10, grow11_11, grow11_12, grow11_13, grow11_14, grow11_15, grow11_17, grow11_18, grow11_19, grow11_20, grow11_21, grow11_22, grow11_23, grow11_24, grow11_25, grow11_26, grow11_27, grow11_28, grow11_29, grow11_30, grow11_31, grow11_32, grow11_33, grow11_34, grow11_35, grow11_36, grow11_37, grow11_38, grow11_39, grow11_40, grow11_41, grow11_42, grow11_43, grow11_44, grow11_45, grow11_46, grow11_79, grow11_80, grow11_86, grow11_95, grow11_131, grow11_144, grow11_153, grow11_154, grow11_155, grow11_156, grow11_173, grow11_179, grow11_208, grow11_218, grow11_224, ty3, ty5, ty22, ty23, ty25, ty29, ty30, ty38, ty56, ty63, plan11_3, plan11_4, plan11_5, plan11_10, plan11_12, plan11_13, plan11_31, plan11_49, plan11_58, plan11_64, eqt29, eqt56, eqt63, sb, st, he, hf, hadB, hadT, hidx, hxs, hset, hvb.len, List.length_map, List.length_set, List.set_set, hbt, t3, t4, t5, t6, c3, c5, c6, c7, c8, c9, x1, x2, x3, x4]
          rw [chkK_of]; rotate_left; kernel_rfl
          simp only [go_sem, ↓reduceIte, Nat.reduceEqDiff, Nat.reduceAdd, Nat.reduceLeDiff, Nat.reduceBEq, Nat.reduceMul, Nat.reduceLT, Int.reduceLT, Int.reduceLE, Int.reduceToNat, Int.reduceNeg, Int.reduceEq, Int.reduceMul, reduceCtorEq, Int.reduceBEq, Int.reduceBNe, Int.reduceAdd, Int.reduceSub, bne_self_eq_false, beq_self_eq_true, Nat.le_add_right, eqOk, fn11, res11, gc11_0, gc11_1, gc11_2, gc11_3, gc11_4, gc11_5, gc11_6, gc11_7, gc11_8, gc11_9, gc11_10, gc11_11, gc11_12, gc11_13, gc11_14, gc11_15, gc11_16, gc11_17, gc11_18, gc11_19, gc11_20, gc11_21, gc11_22, gc11_23, gc11_24, gc11_25, gc11_26, gc11_27, gc11_28, gc11_29, gc11_30, gc11_31, gc11_32, gc11_33, gc11_34, gc11_35, gc11_36, gc11_37, gc11_38, gc11_39, gc11_40, gc11_41, gc11_42, gc11_43, gc11_44, gc11_45, gc11_46, gc11_47, gc11_48, gc11_49, gc11_50, gc11_51, gc11_52, gc11_53, gc11_54, gc11_55, gc11_56, gc11_57, gc11_58, gc11_59, gc11_60, gc11_61, gc11_62, gc11_63, gc11_64, gc11_65, gc11_66, gc11_67, gcSt, keepEnv, envLt, heapLt, dfrLt, ADefer.lt, grow11_8, grow11_9, grow11_10, grow11_11, grow11_12, grow11_13, grow11_14, grow11_15, grow11_17, grow11_18, grow11_19, grow11_20, grow11_21, grow11_22, grow11_23, grow11_24, grow11_25, grow11_26, grow11_27, grow11_28, grow11_29, grow11_30, grow11_31, grow11_32, grow11_33, grow11_34, grow11_35, grow11_36, grow11_37, grow11_38, grow11_39, grow11_40, grow11_41, grow11_42, grow11_43, grow11_44, grow11_45, grow11_46, grow11_79, grow11_80, grow11_86, grow11_95, grow11_131, grow11_144, grow11_153, grow11_154, grow11_155, grow11_156, grow11_173, grow11_179, grow11_208, grow11_218, grow11_224, ty3, ty5, ty22, ty23, ty25, ty29, ty30, ty38, ty56, ty63, plan11_3, plan11_4, plan11_5, plan11_10, plan11_12, plan11_13, plan11_31, plan11_49, plan11_58, plan11_64, eqt29, eqt56, eqt63, sb, st, he, hf, hadB, hadT, hidx, hxs, hset, hvb.len, List.length_map, List.length_set, List.set_set, hbt, t3, t4, t5, t6, c3, c5, c6, c7, c8, c9, x1, x2, x3, x4]
          exact F _ [] (by rfl) (by rfl) (by rfl) (by rfl) (by rfl) (by rfl) (by rfl) (by rfl) (by rfl) (by rfl)
      · by_cases hts0 : (0 : Int) < s.ts.length
        · have z4 : ¬ (s.ts.length : Int) = 0 := by omega
          have m4 := mod_lt (a := u) (b := (s.ts.length : Int)) (by omega)
          generalize u % (s.ts.length : Int) = i at *
          have hil : i.toNat < s.ts.length := by omega
          obtain ⟨t, ht⟩ : ∃ t, t = s.ts[i.toNat] := ⟨_, rfl⟩
          have hti : s.ts[i.toNat]? = some t := by rw [List.getElem?_eq_getElem hil, ht]
          have hto := hwf.ts t (List.mem_of_getElem? hti)
          have hit : i.toNat < (s.ts.map Tch.av).length := by simp; omega
          have hts : (s.ts.map Tch.av)[i.toNat]? = some (.agg [I t.b, I t.m, I t.h0, I t.h1]) := by rw [List.getElem?_map, hti]; rfl
          have hsetT : ∀ a : AV, ((s.ts.map Tch.av).set i.toNat a)[i.toNat]? = some a := fun a => List.getElem?_set_self hit
          have hidt : ∀ (te : Ty) (o0 o1 o2 o3 o4 o5 : AO) (xs : List AV) (G : Heap), te.size = 4 → xs.length = s.ts.length → idxAddr (H ++ (o0 :: o1 :: o2 :: o3 :: o4 :: o5 :: .grow 4 xs :: G)) te (.gsl (H.length + 6) s.ts.length) i = some (.eptr (H.length + 6) s.ts.length i.toNat 0) := by
            intro te o0 o1 o2 o3 o4 o5 xs G hte hxl
            simp only [idxAddr, get_at', List.getElem?_cons_succ, List.getElem?_cons_zero, hxl, hte]
            rw [if_pos ⟨trivial, m4.1, by omega, trivial⟩]
          have x5 : IntKind.i64.wrap (t.h0 + 1) = t.h0 + 1 := w64 (by omega) (by omega)
          have x6 : IntKind.i64.wrap (t.h1 - 1) = t.h1 - 1 := w64 (by omega) (by omega)
          have y5 := mn_bd hto.2.1
          have y6 := mx_bd hto.2.1
          rcases hd with rfl | rfl
          · have F := fin { s with ts := s.ts.set i.toNat ⟨t.b, t.m, (mn t.h1 (t.h0 + 1)), t.h1⟩ } (nar_tch hv b hti (mn t.h1 (t.h0 + 1)) t.h1 (by omega) (by omega) (by omega)).1 (nar_tch hv b hti (mn t.h1 (t.h0 + 1)) t.h1 (by omega) (by omega) (by omega)).2 rfl (List.length_set ..)
            simp only [List.map_set, Tch.av] at F
            simp only [go_sem, ↓reduceIte, Nat.reduceEqDiff, Nat.reduceAdd, Nat.reduceLeDiff, Nat.reduceBEq, Nat.reduceMul, Nat.reduceLT, Int.reduceLT, Int.reduceLE, Int.reduceToNat, Int.reduceNeg, Int.reduceEq, Int.reduceMul, reduceCtorEq, Int.reduceBEq, Int.reduceBNe, Int.reduceAdd, Int.reduceSub, bne_self_eq_false, beq_self_eq_true, Nat.le_add_right, eqOk, fn11, res11, gc11_0, gc11_1, gc11_2, gc11_3, gc11_4, gc11_5, gc11_6, gc11_7, gc11_8, gc11_9, gc11_10, gc11_11, gc11_12, gc11_13, gc11_14, gc11_15, gc11_16, gc11_17, gc11_18, gc11_19, gc11_20, gc11_21, gc11_22, gc11_23, gc11_24, gc11_25, gc11_26, gc11_27, gc11_28, gc11_29, gc11_30, gc11_31, gc11_32, gc11_33, gc11_34, gc11_35, gc11_36, gc11_37, gc11_38, gc11_39, gc11_40, gc11_41, gc11_42, gc11_43, gc11_44, gc11_45, gc11_46, gc11_47, gc11_48, gc11_49, gc11_50, gc11_51, gc11_52, gc11_53, gc11_54, gc11_55, gc11_56, gc11_57, gc11_58, gc11_59, gc11_60, gc11_61, gc11_62, gc11_63, gc11_64, gc11_65, gc11_66, gc11_67, gcSt, keepEnv, envLt, heapLt, dfrLt, ADefer.lt, grow11_8, grow11_9, grow11_10, grow11_11, grow11_12, grow11_13, grow11_14, grow11_15, grow11_17, grow11_18, grow11_19, grow11_20, grow11_21, grow11_22, grow11_23, grow11_24, grow11_25, grow11_26, grow11_27, grow11_28, grow11_29, grow11_30, grow11_31, grow11_32, grow11_33, grow11_34, grow11_35, grow11_36, grow11_37, grow11_38, grow11_39, grow11_40, grow11_41, grow11_42, grow11_43, grow11_44, grow11_45, grow11_46, grow11_79, grow11_80, grow11_86, grow11_95, grow11_131, grow11_144, grow11_153, grow11_154, grow11_155, grow11_156, grow11_173, grow11_179, grow11_208, grow11_218, grow11_224, ty3, ty5, ty22, ty23, ty25, ty29, ty30, ty38, ty56, ty63, plan11_3, plan11_4, plan11_5, plan11_10, plan11_12, plan11_13, plan11_31, plan11_49, plan11_58, plan11_64, eqt29, eqt56, eqt63, sb, st, he, hf, hadB, hadT, hidx, hxs, hset, hvb.len, List.length_map, List.length_set, List.set_set, hbt, t3, t4, t5, t6, c3, c5, c6, c7, c8, c9, x1, x2, x3, x4, c2, z4, t7, hidt, hts, hsetT, hit, hts0, x5, x6]
            rw [chkK_of]; rotate_left; kernel_rfl
            simp only [go_sem, ↓reduceIte, Nat.reduceEqDiff, Nat.reduceAdd, Nat.reduceLeDiff, Nat.reduceBEq, Nat.reduceMul, Nat.reduceLT, Int.reduceLT, Int.reduceLE, Int.reduceToNat, Int.reduceNeg, Int.reduceEq, Int.reduceMul, reduceCtorEq, Int.reduceBEq, Int.reduceBNe, Int.reduceAdd, Int.reduceSub, bne_self_eq_false, beq_self_eq_true, Nat.le_add_right, eqOk, fn11, res11, gc11_0, gc11_1, gc11_2, gc11_3, gc11_4, gc11_5, gc11_6, gc11_7, gc11_8, gc11_9, gc11_10, gc11_11, gc11_12, gc11_13, gc11_14, gc11_15, gc11_16, gc11_17, gc11_18, gc11_19, gc11_20, gc11_21, gc11_22, gc11_23, gc11_24, gc11_25, gc11_26, gc11_27, gc11_28, gc11_29, gc11_30, gc11_31, gc11_32, gc11_33, gc11_34, gc11_35, gc11_36, gc11_37, gc11_38, gc11_39, gc11_40, gc11_41, gc11_42, gc11_43, gc11_44, gc11_45, gc11_46, gc11_47, gc11_48, gc11_49, gc11_50, gc11_51, gc11_52, gc11_53, gc11_54, gc11_55, gc11_56, gc11_57, gc11_58, gc11_59, gc11_60, gc11_61, gc11_62, gc11_63, gc11_64, gc11_65, gc11_66, gc11_67, gcSt, keepEnv, envLt, heapLt, dfrLt, ADefer.lt, grow11_8, grow11_9, grow11_10, grow11_11, grow11_12, grow11_13, grow11_14, grow11_15, grow11_17, grow11_18, grow11_19, grow11_20, grow11_21, grow11_22, grow11_23, grow11_24, grow11_25, grow11_26, grow11_27, grow11_28, grow11_29, grow11_30, grow11_31, grow11_32, grow11_33, grow11_34, grow11_35, grow11_36, grow11_37, grow11_38, grow11_39, grow11_40, grow11_41, grow11_42, grow11_43, grow11_44, grow11_45, grow11_46, grow11_79, grow11_80, grow11_86, grow11_95, grow11_131, grow11_144, grow11_153, grow11_154, grow11_155, grow11_156, grow11_173, grow11_179, grow11_208, grow11_218, grow11_224, ty3, ty5, ty22, ty23, ty25, ty29, ty30, ty38, ty56, ty63, plan11_3, plan11_4, plan11_5, plan11_10, plan11_12, plan11_13, plan11_31, plan11_49, plan11_58, plan11_64, eqt29, eqt56, eqt63, sb, st, he, hf, hadB, hadT, hidx, hxs, hset, hvb.len, List.length_map, List.length_set, List.set_set, hbt, t3, t4, t5, t6, c3, c5, c6, c7, c8, c9, x1, x2, x3, x4, c2, z4, t7, hidt, hts, hsetT, hit, hts0, x5, x6]
            rw [chkK_of]; rotate_left; kernel_rfl
            simp only [go_sem, ↓reduceIte, Nat.reduceEqDiff, Nat.reduceAdd, Nat.reduceLeDiff, Nat.reduceBEq, Nat.reduceMul, Nat.reduceLT, Int.reduceLT, Int.reduceLE, Int.reduceToNat, Int.reduceNeg, Int.reduceEq, Int.reduceMul, reduceCtorEq, Int.reduceBEq, Int.reduceBNe, Int.reduceAdd, Int.reduceSub, bne_self_eq_false, beq_self_eq_true, Nat.le_add_right, eqOk, fn11, res11, gc11_0, gc11_1, gc11_2, gc11_3, gc11_4, gc11_5, gc11_6, gc11_7, gc11_8, gc11_9, gc11_10, gc11_11, gc11_12, gc11_13, gc11_14, gc11_15, gc11_16, gc11_17, gc11_18, gc11_19, gc11_20, gc11_21, gc11_22, gc11_23, gc11_24, gc11_25, gc11_26, gc11_27, gc11_28, gc11_29, gc11_30, gc11_31, gc11_32, gc11_33, gc11_34, gc11_35, gc11_36, gc11_37, gc11_38, gc11_39, gc11_40, gc11_41, gc11_42, gc11_43, gc11_44, gc11_45, gc11_46, gc11_47, gc11_48, gc11_49, gc11_50, gc11_51, gc11_52, gc11_53, gc11_54, gc11_55, gc11_56, gc11_57, gc11_58, gc11_59, gc11_60, gc11_61, gc11_62, gc11_63, gc11_64, gc11_65, gc11_66, gc11_67, gcSt, keepEnv, envLt, heapLt, dfrLt, ADefer.lt, grow11_8, grow11_9, grow11_10, grow11_11, grow11_12, grow11_13, grow11_14, grow11_15, grow11_17, grow11_18, grow11_19, grow11_20, grow11_21, grow11_22, grow11_23, grow11_24, grow11_25, grow11_26, grow11_27, grow11_28, grow11_29, grow11_30, grow11_31, grow11_32, grow11_33, grow11_34, grow11_35, grow11_36, grow11_37, grow11_38, grow11_39, grow11_40, grow11_41, grow11_42, grow11_43, grow11_44, grow11_45, grow11_46, grow11_79, grow11_80, grow11_86, grow11_95, grow11_131, grow11_144, grow11_153, grow11_154, grow11_155, grow11_156, grow11_173, grow11_179, grow11_208, grow11_218, grow11_224, ty3, ty5, ty22, ty23, ty25, ty29, ty30, ty38, ty56, ty63, plan11_3, plan11_4, plan11_5, plan11_10, plan11_12, plan11_13, plan11_31, plan11_49, plan11_58, plan11_64, eqt29, eqt56, eqt63, sb, st, he, hf, hadB, hadT, hidx, hxs, hset, hvb.len, List.length_map, List.length_set, List.set_set, hbt, t3, t4, t5, t6, c3, c5, c6, c7, c8, c9, x1, x2, x3, x4, c2, z4, t7, hidt, hts, hsetT, hit, hts0, x5, x6]
            exact F _ [] (by rfl) (by rfl) (by rfl) (by rfl) (by rfl) (by rfl) (by rfl) (by rfl) (by rfl) (by rfl)
          · have F := fin { s with ts := s.ts.set i.toNat ⟨t.b, t.m, t.h0, (mx t.h0 (t.h1 - 1))⟩ } (nar_tch hv b hti t.h0 (mx t.h0 (t.h1 - 1)) (by omega) (by omega) (by omega)).1 (nar_tch hv b hti t.h0 (mx t.h0 (t.h1 - 1)) (by omega) (by omega) (by omega)).2 rfl (List.length_set ..)
            simp only [List.map_set, Tch.av] at F
            simp only [go_sem, ↓reduceIte, Nat.reduceEqDiff, Nat.reduceAdd, Nat.reduceLeDiff, Nat.reduceBEq, Nat.reduceMul, Nat.reduceLT, Int.reduceLT, Int.reduceLE, Int.reduceToNat, Int.reduceNeg, Int.reduceEq, Int.reduceMul, reduceCtorEq, Int.reduceBEq, Int.reduceBNe, Int.reduceAdd, Int.reduceSub, bne_self_eq_false, beq_self_eq_true, Nat.le_add_right, eqOk, fn11, res11, gc11_0, gc11_1, gc11_2, gc11_3, gc11_4, gc11_5, gc11_6, gc11_7, gc11_8, gc11_9, gc11_10, gc11_11, gc11_12, gc11_13, gc11_14, gc11_15, gc11_16, gc11_17, gc11_18, gc11_19, gc11_20, gc11_21, gc11_22, gc11_23, gc11_24, gc11_25, gc11_26, gc11_27, gc11_28, gc11_29, gc11_30, gc11_31, gc11_32, gc11_33, gc11_34, gc11_35, gc11_36, gc11_37, gc11_38, gc11_39, gc11_40, gc11_41, gc11_42, gc11_43, gc11_44, gc11_45, gc11_46, gc11_47, gc11_48, gc11_49, gc11_50, gc11_51, gc11_52, gc11_53, gc11_54, gc11_55, gc11_56, gc11_57, gc11_58, gc11_59, gc11_60, gc11_61, gc11_62, gc11_63, gc11_64, gc11_65, gc11_66, gc11_67, gcSt, keepEnv, envLt, heapLt, dfrLt, ADefer.lt, grow11_8, grow11_9, grow11_10, grow11_11, grow11_12, grow11_13, grow11_14, grow11_15, grow11_17, grow11_18, grow11_19, grow11_20, grow11_21, grow11_22, grow11_23, grow11_24, grow11_25, grow11_26, grow11_27, grow11_28, grow11_29, grow11_30, grow11_31, grow11_32, grow11_33, grow11_34, grow11_35, grow11_36, grow11_37, grow11_38, grow11_39, grow11_40, grow11_41, grow11_42, grow11_43, grow11_44, grow11_45, grow11_46, grow11_79, grow11_80, grow11_86, grow11_95, grow11_131, grow11_144, grow11_153, grow11_154, grow11_155, grow11_156, grow11_173, grow11_179, grow11_208, grow11_218, grow11_224, ty3, ty5, ty22, ty23, ty25, ty29, ty30, ty38, ty56, ty63, plan11_3, plan11_4, plan11_5, plan11_10, plan11_12, plan11_13, plan11_31, plan11_49, plan11_58, plan11_64, eqt29, eqt56, eqt63, sb, st, he, hf, hadB, hadT, hidx, hxs, hset, hvb.len, List.length_map, List.length_set, List.set_set, hbt, t3, t4, t5, t6, c3, c5, c6, c7, c8, c9, x1, x2, x3, x4, c2, z4, t7, hidt, hts, hsetT, hit, hts0, x5, x6]
            rw [chkK_of]; rotate_left; kernel_rfl
            simp only [go_sem, ↓reduceIte, Nat.reduceEqDiff, Nat.reduceAdd, Nat.reduceLeDiff, Nat.reduceBEq, Nat.reduceMul, Nat.reduceLT, Int.reduceLT, Int.reduceLE, Int.reduceToNat, Int.reduceNeg, Int.reduceEq, Int.reduceMul, reduceCtorEq, Int.reduceBEq, Int.reduceBNe, Int.reduceAdd, Int.reduceSub, bne_self_eq_false, beq_self_eq_true, Nat.le_add_right, eqOk, fn11, res11, gc11_0, gc11_1, gc11_2, gc11_3, gc11_4, gc11_5, gc11_6, gc11_7, gc11_8, gc11_9, gc11_10, gc11_11, gc11_12, gc11_13, gc11_14, gc11_15, gc11_16, gc11_17, gc11_18, gc11_19, gc11_20, gc11_21, gc11_22, gc11_23, gc11_24, gc11_25, gc11_26, gc11_27, gc11_28, gc11_29, gc11_30, gc11_31, gc11_32, gc11_33, gc11_34, gc11_35, gc11_36, gc11_37, gc11_38, gc11_39, gc11_40, gc11_41, gc11_42, gc11_43, gc11_44, gc11_45, gc11_46, gc11_47, gc11_48, gc11_49, gc11_50, gc11_51, gc11_52, gc11_53, gc11_54, gc11_55, gc11_56, gc11_57, gc11_58, gc11_59, gc11_60, gc11_61, gc11_62, gc11_63, gc11_64, gc11_65, gc11_66, gc11_67, gcSt, keepEnv, envLt, heapLt, dfrLt, ADefer.lt, grow11_8, grow11_9, grow11_10, grow11_11, grow11_12, grow11_13, grow11_14, grow11_15, grow11_17, grow11_18, grow11_19, grow11_20, grow11_21, grow11_22, grow11_23, grow11_24, grow11_25, grow11_26, grow11_27, grow11_28, grow11_29, grow11_30, grow11_31, grow11_32, grow11_33, grow11_34, grow11_35, grow11_36, grow11_37, grow11_38, grow11_39, grow11_40, grow11_41, grow11_42, grow11_43, grow11_44, grow11_45, grow11_46, grow11_79, grow11_80, grow11_86, grow11_95, grow11_131, grow11_144, grow11_153, grow11_154, grow11_155, grow11_156, grow11_173, grow11_179, grow11_208, grow11_218, grow11_224, ty3, ty5, ty22, ty23, ty25, ty29, ty30, ty38, ty56, ty63, plan11_3, plan11_4, plan11_5, plan11_10, plan11_12, plan11_13, plan11_31, plan11_49, plan11_58, plan11_64, eqt29, eqt56, eqt63, sb, st, he, hf, hadB, hadT, hidx, hxs, hset, hvb.len, List.length_map, List.length_set, List.set_set, hbt, t3, t4, t5, t6, c3, c5, c6, c7, c8, c9, x1, x2, x3, x4, c2, z4, t7, hidt, hts, hsetT, hit, hts0, x5, x6]
            rw [chkK_of]; rotate_left; kernel_rfl
            simp only [go_sem, ↓reduceIte, Nat.reduceEqDiff, Nat.reduceAdd, Nat.reduceLeDiff, Nat.reduceBEq, Nat.reduceMul, Nat.reduceLT, Int.reduceLT, Int.reduceLE, Int.reduceToNat, Int.reduceNeg, Int.reduceEq, Int.reduceMul, reduceCtorEq, Int.reduceBEq, Int.reduceBNe, Int.reduceAdd, Int.reduceSub, bne_self_eq_false, beq_self_eq_true, Nat.le_add_right, eqOk, fn11, res11, gc11_0, gc11_1, gc11_2, gc11_3, gc11_4, gc11_5, gc11_6, gc11_7, gc11_8, gc11_9, gc11_10, gc11_11, gc11_12, gc11_13, gc11_14, gc11_15, gc11_16, gc11_17, gc11_18, gc11_19, gc11_20, gc11_21, gc11_22, gc11_23, gc11_24, gc11_25, gc11_26, gc11_27, gc11_28, gc11_29, gc11_30, gc11_31, gc11_32, gc11_33, gc11_34, gc11_35, gc11_36, gc11_37, gc11_38, gc11_39, gc11_40, gc11_41, gc11_42, gc11_43, gc11_44, gc11_45, gc11_46, gc11_47, gc11_48, gc11_49, gc11_50, gc11_51, gc11_52, gc11_53, gc11_54, gc11_55, gc11_56, gc11_57, gc11_58, gc11_59, gc11_60, gc11_61, gc11_62, gc11_63, gc11_64, gc11_65, gc11_66, gc11_67, gcSt, keepEnv, envLt, heapLt, dfrLt, ADefer.lt, grow11_8, grow11_9, grow11_10, grow11_11, grow11_12, grow11_13, grow11_14, grow11_15, grow11_17, grow11_18, grow11_19, grow11_20, grow11_21, grow11_22, grow11_23, grow11_24, grow11_25, grow11_26, grow11_27, grow11_28, grow11_29, grow11_30, grow11_31, grow11_32, grow11_33, grow11_34, grow11_35, grow11_36, grow11_37, grow11_38, grow11_39, grow11_40, grow11_41, grow11_42, grow11_43, grow11_44, grow11_45, grow11_46, grow11_79, grow11_80, grow11_86, grow11_95, grow11_131, grow11_144, grow11_153, grow11_154, grow11_155, grow11_156, grow11_173, grow11_179, grow11_208, grow11_218, grow11_224, ty3, ty5, ty22, ty23, ty25, ty29, ty30, ty38, ty56, ty63, plan11_3, plan11_4, plan11_5, plan11_10, plan11_12, plan11_13, plan11_31, plan11_49, plan11_58, plan11_64, eqt29, eqt56, eqt63, sb, st, he, hf, hadB, hadT, hidx, hxs, hset, hvb.len, List.length_map, List.length_set, List.set_set, hbt, t3, t4, t5, t6, c3, c5, c6, c7, c8, c9, x1, x2, x3, x4, c2, z4, t7, hidt, hts, hsetT, hit, hts0, x5, x6]
            exact F _ [] (by rfl) (by rfl) (by rfl) (by rfl) (by rfl) (by rfl) (by rfl) (by rfl) (by rfl) (by rfl)
        · rcases hd with rfl | rfl
          · have F := fin { s with bs := s.bs.set b.toNat ⟨mn (s.blk b).x1 ((s.blk b).x0 + 1), (s.blk b).x1, (s.blk b).s0, (s.blk b).s1, (s.blk b).g0, (s.blk b).g1⟩ } (nar_blk hv m1 ⟨mn (s.blk b).x1 ((s.blk b).x0 + 1), (s.blk b).x1, (s.blk b).s0, (s.blk b).s1, (s.blk b).g0, (s.blk b).g1⟩ ⟨by dsimp only; omega, by dsimp only; omega, by dsimp only; omega, by dsimp only; omega, by dsimp only; omega, by dsimp only; omega, by dsimp only; omega, by dsimp only; omega, by dsimp only; omega⟩ (by dsimp only; omega) (by dsimp only; omega) (by dsimp only; omega) (by dsimp only; omega)).1 (nar_blk hv m1 ⟨mn (s.blk b).x1 ((s.blk b).x0 + 1), (s.blk b).x1, (s.blk b).s0, (s.blk b).s1, (s.blk b).g0, (s.blk b).g1⟩ ⟨by dsimp only; omega, by dsimp only; omega, by dsimp only; omega, by dsimp only; omega, by dsimp only; omega, by dsimp only; omega, by dsimp only; omega, by dsimp only; omega, by dsimp only; omega⟩ (by dsimp only; omega) (by dsimp only; omega) (by dsimp only; omega) (by dsimp only; omega)).2 (List.length_set ..) rfl
            simp only [List.map_set, Blk.av] at F
            simp only [go_sem, ↓reduceIte, Nat.reduceEqDiff, Nat.reduceAdd, Nat.reduceLeDiff, Nat.reduceBEq, Nat.reduceMul, Nat.reduceLT, Int.reduceLT, Int.reduceLE, Int.reduceToNat, Int.reduceNeg, Int.reduceEq, Int.reduceMul, reduceCtorEq, Int.reduceBEq, Int.reduceBNe, Int.reduceAdd, Int.reduceSub, bne_self_eq_false, beq_self_eq_true, Nat.le_add_right, eqOk, fn11, res11, gc11_0, gc11_1, gc11_2, gc11_3, gc11_4, gc11_5, gc11_6, gc11_7, gc11_8, gc11_9, gc11_10, gc11_11, gc11_12, gc11_13, gc11_14, gc11_15, gc11_16, gc11_17, gc11_18, gc11_19, gc11_20, gc11_21, gc11_22, gc11_23, gc11_24, gc11_25, gc11_26, gc11_27, gc11_28, gc11_29, gc11_30, gc11_31, gc11_32, gc11_33, gc11_34, gc11_35, gc11_36, gc11_37, gc11_38, gc11_39, gc11_40, gc11_41, gc11_42, gc11_43, gc11_44, gc11_45, gc11_46, gc11_47, gc11_48, gc11_49, gc11_50, gc11_51, gc11_52, gc11_53, gc11_54, gc11_55, gc11_56, gc11_57, gc11_58, gc11_59, gc11_60, gc11_61, gc11_62, gc11_63, gc11_64, gc11_65, gc11_66, gc11_67, gcSt, keepEnv, envLt, heapLt, dfrLt, ADefer.lt, grow11_8, grow11_9, grow11_10, grow11_11, grow11_12, grow11_13, grow11_14, grow11_15, grow11_17, grow11_18, grow11_19, grow11_20, grow11_21, grow11_22, grow11_23, grow11_24, grow11_25, grow11_26, grow11_27, grow11_28, grow11_29, grow11_30, grow11_31, grow11_32, grow11_33, grow11_34, grow11_35, grow11_36, grow11_37, grow11_38, grow11_39, grow11_40, grow11_41, grow11_42, grow11_43, grow11_44, grow11_45, grow11_46, grow11_79, grow11_80, grow11_86, grow11_95, grow11_131, grow11_144, grow11_153, grow11_154, grow11_155, grow11_156, grow11_173, grow11_179, grow11_208, grow11_218, grow11_224, ty3, ty5, ty22, ty23, ty25, ty29, ty30, ty38, ty56, ty63, plan11_3, plan11_4, plan11_5, plan11_10, plan11_12, plan11_13, plan11_31, plan11_49, plan11_58, plan11_64, eqt29, eqt56, eqt63, sb, st, he, hf, hadB, hadT, hidx, hxs, hset, hvb.len, List.length_map, List.length_set, List.set_set, hbt, t3, t4, t5, t6, c3, c5, c6, c7, c8, c9, x1, x2, x3, x4, hts0]
            rw [chkK_of]; rotate_left; kernel_rfl
            simp only [go_sem, ↓reduceIte, Nat.reduceEqDiff, Nat.reduceAdd, Nat.reduceLeDiff, Nat.reduceBEq, Nat.reduceMul, Nat.reduceLT, Int.reduceLT, Int.reduceLE, Int.reduceToNat, Int.reduceNeg, Int.reduceEq, Int.reduceMul, reduceCtorEq, Int.reduceBEq, Int.reduceBNe, Int.reduceAdd, Int.reduceSub, bne_self_eq_false, beq_self_eq_true, Nat.le_add_right, eqOk, fn11, res11, gc11_0, gc11_1, gc11_2, gc11_3, gc11_4, gc11_5, gc11_6, gc11_7, gc11_8, gc11_9, gc11_10, gc11_11, gc11_12, gc11_13, gc11_14, gc11_15, gc11_16, gc11_17, gc11_18, gc11_19, gc11_20, gc11_21, gc11_22, gc11_23, gc11_24, gc11_25, gc11_26, gc11_27, gc11_28, gc11_29, gc11_30, gc11_31, gc11_32, gc11_33, gc11_34, gc11_35, gc11_36, gc11_37, gc11_38, gc11_39, gc11_40, gc11_41, gc11_42, gc11_43, gc11_44, gc11_45, gc11_46, gc11_47, gc11_48, gc11_49, gc11_50, gc11_51, gc11_52, gc11_53, gc11_54, gc11_55, gc11_56, gc11_57, gc11_58, gc11_59, gc11_60, gc11_61, gc11_62, gc11_63, gc11_64, gc11_65, gc11_66, gc11_67, gcSt, keepEnv, envLt, heapLt, dfrLt, ADefer.lt, grow11_8, grow11_9, grow11_10, grow11_11, grow11_12, grow11_13, grow11_14, grow11_15, grow11_17, grow11_18, grow11_19, grow11_20, grow11_21, grow11_22, grow11_23, grow11_24, grow11_25, grow11_26, grow11_27, grow11_28, grow11_29, grow11_30, grow11_31, grow11_32, grow11_33, grow11_34, grow11_35, grow11_36, grow11_37, grow11_38, grow11_39, grow11_40, grow11_41, grow11_42, grow11_43, grow11_44, grow11_45, grow11_46, grow11_79, grow11_80, grow11_86, grow11_95, grow11_131, grow11_144, grow11_153, grow11_154, grow11_155, grow11_156, grow11_173, grow11_179, grow11_208, grow11_218, grow11_224, ty3, ty5, ty22, ty23, ty25, ty29, ty30, ty38, ty56, ty63, plan11_3, plan11_4, plan11_5, plan11_10, plan11_12, plan11_13, plan11_31, plan11_49, plan11_58, plan11_64, eqt29, eqt56, eqt63, sb, st, he, hf, hadB, hadT, hidx, hxs, hset, hvb.len, List.length_map, List.length_set, List.set_set, hbt, t3, t4, t5, t6, c3, c5, c6, c7, c8, c9, x1, x2, x3, x4, hts0]
            exact F _ [] (by rfl) (by rfl) (by rfl) (by rfl) (by rfl) (by rfl) (by rfl) (by rfl) (by rfl) (by rfl)
          · have F := fin { s with bs := s.bs.set b.toNat ⟨(s.blk b).x0, mx (s.blk b).x0 ((s.blk b).x1 - 1), (s.blk b).s0, (s.blk b).s1, (s.blk b).g0, (s.blk b).g1⟩ } (nar_blk hv m1 ⟨(s.blk b).x0, mx (s.blk b).x0 ((s.blk b).x1 - 1), (s.blk b).s0, (s.blk b).s1, (s.blk b).g0, (s.blk b).g1⟩ ⟨by dsimp only; omega, by dsimp only; omega, by dsimp only; omega, by dsimp only; omega, by dsimp only; omega, by dsimp only; omega, by dsimp only; omega, by dsimp only; omega, by dsimp only; omega⟩ (by dsimp only; omega) (by dsimp only; omega) (by dsimp only; omega) (by dsimp only; omega)).1 (nar_blk hv m1 ⟨(s.blk b).x0, mx (s.blk b).x0 ((s.blk b).x1 - 1), (s.blk b).s0, (s.blk b).s1, (s.blk b).g0, (s.blk b).g1⟩ ⟨by dsimp only; omega, by dsimp only; omega, by dsimp only; omega, by dsimp only; omega, by dsimp only; omega, by dsimp only; omega, by dsimp only; omega, by dsimp only; omega, by dsimp only; omega⟩ (by dsimp only; omega) (by dsimp only; omega) (by dsimp only; omega) (by dsimp only; omega)).2 (List.length_set ..) rfl
            simp only [List.map_set, Blk.av] at F
            simp only [go_sem, ↓reduceIte, Nat.reduceEqDiff, Nat.reduceAdd, Nat.reduceLeDiff, Nat.reduceBEq, Nat.reduceMul, Nat.reduceLT, Int.reduceLT, Int.reduceLE, Int.reduceToNat, Int.reduceNeg, Int.reduceEq, Int.reduceMul, reduceCtorEq, Int.reduceBEq, Int.reduceBNe, Int.reduceAdd, Int.reduceSub, bne_self_eq_false, beq_self_eq_true, Nat.le_add_right, eqOk, fn11, res11, gc11_0, gc11_1, gc11_2, gc11_3, gc11_4, gc11_5, gc11_6, gc11_7, gc11_8, gc11_9, gc11_10, gc11_11, gc11_12, gc11_13, gc11_14, gc11_15, gc11_16, gc11_17, gc11_18, gc11_19, gc11_20, gc11_21, gc11_22, gc11_23, gc11_24, gc11_25, gc11_26, gc11_27, gc11_28, gc11_29, gc11_30, gc11_31, gc11_32, gc11_33, gc11_34, gc11_35, gc11_36, gc11_37, gc11_38, gc11_39, gc11_40, gc11_41, gc11_42, gc11_43, gc11_44, gc11_45, gc11_46, gc11_47, gc11_48, gc11_49, gc11_50, gc11_51, gc11_52, gc11_53, gc11_54, gc11_55, gc11_56, gc11_57, gc11_58, gc11_59, gc11_60, gc11_61, gc11_62, gc11_63, gc11_64, gc11_65, gc11_66, gc11_67, gcSt, keepEnv, envLt, heapLt, dfrLt, ADefer.lt, grow11_8, grow11_9, grow11_10, grow11_11, grow11_12, grow11_13, grow11_14, grow11_15, grow11_17, grow11_18, grow11_19, grow11_20, grow11_21, grow11_22, grow11_23, grow11_24, grow11_25, grow11_26, grow11_27, grow11_28, grow11_29, grow11_30, grow11_31, grow11_32, grow11_33, grow11_34, grow11_35, grow11_36, grow11_37, grow11_38, grow11_39, grow11_40, grow11_41, grow11_42, grow11_43, grow11_44, grow11_45, grow11_46, grow11_79, grow11_80, grow11_86, grow11_95, grow11_131, grow11_144, grow11_153, grow11_154, grow11_155, grow11_156, grow11_173, grow11_179, grow11_208, grow11_218, grow11_224, ty3, ty5, ty22, ty23, ty25, ty29, ty30, ty38, ty56, ty63, plan11_3, plan11_4, plan11_5, plan11_10, plan11_12, plan11_13, plan11_31, plan11_49, plan11_58, plan11_64, eqt29, eqt56, eqt63, sb, st, he, hf, hadB, hadT, hidx, hxs, hset, hvb.len, List.length_map, List.length_set, List.set_set, hbt, t3, t4, t5, t6, c3, c5, c6, c7, c8, c9, x1, x2, x3, x4, hts0]
            rw [chkK_of]; rotate_left; kernel_rfl
            simp only [go_sem, ↓reduceIte, Nat.reduceEqDiff, Nat.reduceAdd, Nat.reduceLeDiff, Nat.reduceBEq, Nat.reduceMul, Nat.reduceLT, Int.reduceLT, Int.reduceLE, Int.reduceToNat, Int.reduceNeg, Int.reduceEq, Int.reduceMul, reduceCtorEq, Int.reduceBEq, Int.reduceBNe, Int.reduceAdd, Int.reduceSub, bne_self_eq_false, beq_self_eq_true, Nat.le_add_right, eqOk, fn11, res11, gc11_0, gc11_1, gc11_2, gc11_3, gc11_4, gc11_5, gc11_6, gc11_7, gc11_8, gc11_9, gc11_10, gc11_11, gc11_12, gc11_13, gc11_14, gc11_15, gc11_16, gc11_17, gc11_18, gc11_19, gc11_20, gc11_21, gc11_22, gc11_23, gc11_24, gc11_25, gc11_26, gc11_27, gc11_28, gc11_29, gc11_30, gc11_31, gc11_32, gc11_33, gc11_34, gc11_35, gc11_36, gc11_37, gc11_38, gc11_39, gc11_40, gc11_41, gc11_42, gc11_43, gc11_44, gc11_45, gc11_46, gc11_47, gc11_48, gc11_49, gc11_50, gc11_51, gc11_52, gc11_53, gc11_54, gc11_55, gc11_56, gc11_57, gc11_58, gc11_59, gc11_60, gc11_61, gc11_62, gc11_63, gc11_64, gc11_65, gc11_66, gc11_67, gcSt, keepEnv, envLt, heapLt, dfrLt, ADefer.lt, grow11_8, grow11_9, grow11_10, grow11_11, grow11_12, grow11_13, grow11_14, grow11_15, grow11_17, grow11_18, grow11_19, grow11_20, grow11_21, grow11_22, grow11_23, grow11_24, grow11_25, grow11_26, grow11_27, grow11_28, grow11_29, grow11_30, grow11_31, grow11_32, grow11_33, grow11_34, grow11_35, grow11_36, grow11_37, grow11_38, grow11_39, grow11_40, grow11_41, grow11_42, grow11_43, grow11_44, grow11_45, grow11_46, grow11_79, grow11_80, grow11_86, grow11_95, grow11_131, grow11_144, grow11_153, grow11_154, grow11_155, grow11_156, grow11_173, grow11_179, grow11_208, grow11_218, grow11_224, ty3, ty5, ty22, ty23, ty25, ty29, ty30, ty38, ty56, ty63, plan11_3, plan11_4, plan11_5, plan11_10, plan11_12, plan11_13, plan11_31, plan11_49, plan11_58, plan11_64, eqt29, eqt56, eqt63, sb, st, he, hf, hadB, hadT, hidx, hxs, hset, hvb.len, List.length_map, List.length_set, List.set_set, hbt, t3, t4, t5, t6, c3, c5, c6, c7, c8, c9, x1, x2, x3, x4, hts0]
            exact F _ [] (by rfl) (by rfl) (by rfl) (by rfl) (by rfl) (by rfl) (by rfl) (by rfl) (by rfl) (by rfl)

end Go.Ab
