/-
  FringeWhole.
-/
import Derived.Test.YtcalhkhkiahecaaKK4
namespace Go.Ab
open Go.Proofs
set_option linter.unusedSimpArgs false
set_option linter.unusedVariables false
set_option maxRecDepth 100000
set_option maxHeartbeats 2000000

variable {H : Heap}


theorem fw_in {f : Frg} {vw vr : AV} (ho : f.Ok) (hf : FrAt H f vw vr) (c : Nat) (hc : c < f.ws.length) (lo hi : Int) (hb : 0 ≤ lo ∧ lo ≤ hi ∧ hi ≤ 2000) (v6 : AV) (a8 k j0 : Int) (vs : AV) (acF : List Int) (aF : Nat) (K : List Item) (R : Option Done) (hK : ∀ E : Env, E.get 2 = .ptr H.length 0 → E.get 5 = I c → E.get 6 = v6 → E.get 8 = I a8 → E.get 16 = .gsl (H.length + 1) acF.length → E.get 17 = I (aF : Nat) → E.get 101 = vs → E.get 102 = I k → E.get 103 = I j0 → Option.map (finishC H.length) (execL cfg0 prog0 ⟨7, none, false, H.length⟩ K ⟨E, [], H ++ [.box (.agg [vw, I f.lo, I f.hi, vr]), .grow 1 (acF.map I), .box (.agg [I lo, I hi])], none⟩) = R)  :
    ∀ (q j : Nat), j + q = (hi + 1 - lo).toNat → ∀ (acc : List Int), ∀ (a : Nat), (upF (lo + j) q).foldl (wstep (f.w c)) acc = acF → (upF (lo + j) q).foldl (fun a x => orP a (ptZ (f.w c) x)) a = aF → a < 2 ^ 20 → acc.length + q ≤ 1000 → ∀ E : Env, E.get 2 = .ptr H.length 0 → E.get 5 = I c → E.get 6 = v6 → E.get 8 = I a8 → E.get 16 = .gsl (H.length + 1) acc.length → E.get 17 = I (a : Nat) → E.get 19 = .ptr (H.length + 2) 0 → E.get 20 = I (lo + j) → E.get 101 = vs → E.get 102 = I k → E.get 103 = I j0 →
    Option.map (finishC H.length) (execL cfg0 prog0 ⟨7, none, false, H.length⟩ (loopIt Try.f7 21 :: .inBlock 2 :: K) ⟨E, [], H ++ [.box (.agg [vw, I f.lo, I f.hi, vr]), .grow 1 (acc.map I), .box (.agg [I lo, I hi])], none⟩) = R := by
  intro q
  have s1 := hf.ws.scal
  have s2 := hf.rs.scal
  have hv : f.valid = true := f.valid_iff.2 ho
  have hl : f.ws.length ≤ 1000 ∧ f.rs.length ≤ 1000 := by have := ho.many; have := ho.reads; omega
  have hwc := ho.wave c hc
  induction q with
  | zero =>
    intro j hj acc a h1 h2 h3 h4 E g2 g5 g6 g8 g16 g17 g19 g20 g101 g102 g103
    have hk' : ¬ (j : Int) < (((hi + 1 - lo).toNat : Nat) : Int) := by omega
    simp only [upF, List.range_zero, List.map_nil, List.foldl_nil] at h1 h2
    subst h1
    subst h2
    simp only [loopIt, todoPast, todoAt, todoOf, firstReg, ↓reduceIte, Option.some.injEq, Nat.reduceEqDiff, reduceCtorEq, Try.f7]
    rw [execL_inLoop]
    simp (maxSteps := 1000000) (implicitDefEqProofs := false) (disch := first | rfl | omega | assumption) only [go_sem, g2, g5, g6, g8, g16, g17, g19, g20, g101, g102, g103, ltT, ltF, leT, leF, hk']
    exact hK _ (by exact g2) (by exact g5) (by exact g6) (by exact g8) (by exact g16) (by exact g17) (by exact g101) (by exact g102) (by exact g103)
  | succ q ih =>
    intro j hj acc a h1 h2 h3 h4 E g2 g5 g6 g8 g16 g17 g19 g20 g101 g102 g103
    have hk' : (j : Int) < (((hi + 1 - lo).toNat : Nat) : Int) := by omega
    have hk2 : j < (hi + 1 - lo).toNat := by omega
    obtain ⟨n, hn⟩ : ∃ n, lo + (j : Int) = n := ⟨_, rfl⟩
    have e1 : lo + ((j + 1 : Nat) : Int) = n + 1 := by omega
    rw [hn, upF_cons, List.foldl_cons] at h1 h2
    have hnb : 0 ≤ n ∧ n ≤ 2000 := by omega
    have hnh : n ≤ hi := by omega
    rw [hn] at g20
    have hP := fr_Part (hf.app [.box (.agg [vw, I f.lo, I f.hi, vr]), .grow 1 (acc.map I), .box (.agg [I lo, I hi])]) hl n c
    have hw1 : wi n 0 2000 = true := by simp [wi]; omega
    have hw2 : wi (c : Int) 0 ((f.ws.length : Int) - 1) = true := by simp [wi]; omega
    simp only [hv, if_true, hw1, hw2, Bool.and_true, Int.toNat_natCast] at hP
    have hpz := ptZ_bd (w := f.w c) (n := n) (by omega)
    have hol := or_lt (a := a) (p := ptZ (f.w c) n) h3 (by omega)
    have hsh := shlI (k := (ptZ (f.w c) n).toNat) (by omega)
    have hor : bitsOp .or .i64 (a : Int) ((2 ^ (ptZ (f.w c) n).toNat : Nat) : Int) = some ((orP a (ptZ (f.w c) n) : Nat) : Int) := by
      have h20 : (2 : Nat) ^ (ptZ (f.w c) n).toNat < 2 ^ 20 := Nat.pow_lt_pow_right (by omega) (by omega)
      exact bitsOrI (by omega) (by omega)
    have hadd : ∀ o1 o2 : AO, addElem (H ++ [o1, .grow 1 (acc.map I), o2]) 1 false (.gsl (H.length + 1) acc.length) [I (n / f.w c)] = some (.gsl (H.length + 1) (acc.length + 1), H ++ [o1, .grow 1 ((acc ++ [n / f.w c]).map I), o2]) := by
      intro o1 o2
      rw [add_gsl (xs := acc.map I) (by simp) (List.length_map _) rfl rfl (by simp; omega)]
      simp
    have la : (acc.map I).length = acc.length := List.length_map _
    rcases List.eq_nil_or_concat acc with rfl | ⟨ini, p, rfl⟩
    · simp only [List.map_nil, List.length_nil, Nat.zero_add, List.nil_append] at hadd hP g16
      have hst : wstep (f.w c) [] n = [n / f.w c] := by simp [wstep]
      rw [hst] at h1
      simp only [loopIt, todoPast, todoAt, todoOf, firstReg, ↓reduceIte, Option.some.injEq, Nat.reduceEqDiff, reduceCtorEq, Try.f7]
      rw [execL_inLoop]
      simp (maxSteps := 1000000) (implicitDefEqProofs := false) (disch := first | rfl | omega | assumption) only [go_sem, g2, g5, g6, g8, g16, g17, g19, g20, g101, g102, g103, ltT, ltF, leT, leF, hk', s1, s2, hP, hpz, hsh, hor, hadd]
      exact ih (j + 1) (by omega) [n / f.w c] (orP a (ptZ (f.w c) n)) (by rw [e1]; exact h1) (by rw [e1]; exact h2) hol (by simp at h4 ⊢; omega) _ (by exact g2) (by exact g5) (by exact g6) (by exact g8) (by rfl) (by rfl) (by exact g19) (by rw [e1]; rfl) (by exact g101) (by exact g102) (by exact g103)
    · have hle : (ini.concat p).length = ini.length + 1 := by simp
      have ek : ((ini.length + 1 : Nat) : Int) - 1 = (ini.length : Int) := by omega
      have b1 : ∀ o1 o2 : AO, SlOk (H ++ [o1, .grow 1 ((ini.concat p).map I), o2]) 1 (.gsl (H.length + 1) (ini.length + 1)) ((ini.concat p).map I) := fun o1 o2 => ⟨⟨by simp, by simp⟩, fun x hx => by
        obtain ⟨i, _, rfl⟩ := List.mem_map.1 hx; rfl⟩
      have hgp : ((ini.concat p).map I)[ini.length]? = some (I p) := by simp
      have c1 : ∀ (o1 o2 : AO) (te : Ty), te.size = 1 → idxAddr (H ++ [o1, .grow 1 ((ini.concat p).map I), o2]) te (.gsl (H.length + 1) (ini.length + 1)) (ini.length : Int) = some (.eptr (H.length + 1) (ini.length + 1) ini.length 0) := fun o1 o2 te ht => ((b1 o1 o2).at (k := (ini.length : Int)) (by omega) hgp).1 te ht
      have hln : ((ini.concat p).map I).length = ini.length + 1 := by simp
      have hst : wstep (f.w c) (ini.concat p) n = if p = n / f.w c then ini.concat p else ini.concat p ++ [n / f.w c] := by simp [wstep]
      have hz0 : (((ini.length + 1 : Nat) : Int) == 0) = false := by simp; omega
      rw [hst] at h1
      rw [hle] at hadd g16 h4
      by_cases hcp : p = n / f.w c
      · rw [if_pos hcp] at h1
        have hbn : (p != n / f.w c) = false := by simp [hcp]
        simp only [loopIt, todoPast, todoAt, todoOf, firstReg, ↓reduceIte, Option.some.injEq, Nat.reduceEqDiff, reduceCtorEq, Try.f7]
        rw [execL_inLoop]
        simp (maxSteps := 1000000) (implicitDefEqProofs := false) (disch := first | rfl | omega | assumption) only [go_sem, g2, g5, g6, g8, g16, g17, g19, g20, g101, g102, g103, ltT, ltF, leT, leF, hk', s1, s2, hP, hpz, hsh, hor, hadd, hle, ek, c1, hgp, hln, hz0, hbn]
        exact ih (j + 1) (by omega) _ _ (by rw [e1]; exact h1) (by rw [e1]; exact h2) hol (by simp at h4 ⊢; omega) _ (by exact g2) (by exact g5) (by exact g6) (by exact g8) (by rw [hle]; exact g16) (by rfl) (by exact g19) (by rw [e1]; rfl) (by exact g101) (by exact g102) (by exact g103)
      · rw [if_neg hcp] at h1
        have hbn : (p != n / f.w c) = true := bne_iff_ne.2 hcp
        simp only [loopIt, todoPast, todoAt, todoOf, firstReg, ↓reduceIte, Option.some.injEq, Nat.reduceEqDiff, reduceCtorEq, Try.f7]
        rw [execL_inLoop]
        simp (maxSteps := 1000000) (implicitDefEqProofs := false) (disch := first | rfl | omega | assumption) only [go_sem, g2, g5, g6, g8, g16, g17, g19, g20, g101, g102, g103, ltT, ltF, leT, leF, hk', s1, s2, hP, hpz, hsh, hor, hadd, hle, ek, c1, hgp, hln, hz0, hbn]
        exact ih (j + 1) (by omega) _ _ (by rw [e1]; exact h1) (by rw [e1]; exact h2) hol (by simp at h4 ⊢; omega) _ (by exact g2) (by exact g5) (by exact g6) (by exact g8) (by rw [List.length_append, hle]; rfl) (by rfl) (by exact g19) (by rw [e1]; rfl) (by exact g101) (by exact g102) (by exact g103)

theorem wfold_len (w : Int) : ∀ (xs acc : List Int), (xs.foldl (wstep w) acc).length ≤ acc.length + xs.length
  | [], acc => by simp
  | x :: r, acc => by
    have h1 := wfold_len w r (wstep w acc x)
    have h2 : (wstep w acc x).length ≤ acc.length + 1 := by simp only [wstep]; split <;> simp
    simp only [List.foldl_cons, List.length_cons]; omega

theorem ofold_lt {w : Int} (hw : 1 ≤ w) : ∀ (xs : List Int) (a : Nat), a < 2 ^ 20 → xs.foldl (fun a x => orP a (ptZ w x)) a < 2 ^ 20
  | [], a, h => h
  | x :: r, a, h => ofold_lt hw r _ (or_lt h (by have := ptZ_bd (w := w) (n := x) hw; omega))

theorem fw_out {f : Frg} {vw vr : AV} (ho : f.Ok) (hf : FrAt H f vw vr) (c : Nat) (hc : c < f.ws.length) (ps : List (Int × Int)) (hps : ∀ p ∈ ps, 0 ≤ p.1 ∧ p.1 ≤ p.2 ∧ p.2 ≤ 2000 ∧ p.2 - p.1 ≤ 400) (hpl : ps.length ≤ 1000) (acF : List Int) (aF : Nat) (hF : acF.length ≤ 1000) :
    ∀ (q j : Nat), j + q = ps.length → ∀ (acc : List Int), ∀ (a : Nat), ∀ (G : Heap), (flatS (ps.drop j)).foldl (wstep (f.w c)) acc = acF → (flatS (ps.drop j)).foldl (fun a x => orP a (ptZ (f.w c) x)) a = aF → a < 2 ^ 20 → acc.length + (flatS (ps.drop j)).length ≤ 1000 → ∀ E : Env, E.get 2 = .ptr H.length 0 → E.get 5 = I c → E.get 6 = .sl false (acF.map I) → E.get 8 = I (aF : Nat) → E.get 16 = .gsl (H.length + 1) acc.length → E.get 17 = I (a : Nat) → E.get 101 = .sl false (ps.map spA) → E.get 102 = I ps.length → E.get 103 = I j →
    Option.map (finishC H.length) (execL cfg0 prog0 ⟨7, none, false, H.length⟩ (todoAt Try.f7 16) ⟨E, [], H ++ (.box (.agg [vw, I f.lo, I f.hi, vr]) :: .grow 1 (acc.map I) :: G), none⟩) = some ⟨.ret (.bool true), H, none⟩ := by
  intro q
  have s1 := hf.ws.scal
  have s2 := hf.rs.scal
  have t1 := hf.ws.ltn 2
  have t2 := hf.rs.ltn 2
  have hlp := fun N => spLt ps N
  have hlf := fun N => ltL_map (f := I) (N := N) (fun _ => rfl) acF
  have hA := fun G : Heap => law_alive (H ++ G)
  obtain ⟨a1, a2, a3, a4, a5⟩ := (slS (H := H) false ps).fF (d := (0, 0))
  induction q with
  | zero =>
    intro j hj acc a G h1 h2 h3 h4 E g2 g5 g6 g8 g16 g17 g101 g102 g103
    have hk' : ¬ (j : Int) < ((ps.length : Nat) : Int) := by omega
    rw [List.drop_of_length_le (by omega)] at h1 h2
    simp only [flatS, List.flatMap_nil, List.foldl_nil] at h1 h2
    subst h1
    subst h2
    have hlt := fun N => ltL_map (f := I) (N := N) (fun _ => rfl) acc
    have hI := rf_Ints (H := H ++ [.box (.agg [vw, I f.lo, I f.hi, vr]), .grow 1 (acc.map I)]) (v := .sl false (acc.map I)) (w := .gsl (H.length + 1) acc.length) (xs := acc) (ys := acc) (slI _ _) ⟨⟨by simp, by simp⟩, fun x hx => by obtain ⟨i, _, rfl⟩ := List.mem_map.1 hx; rfl⟩ (by omega)
    simp only [decide_true] at hI
    simp only [loopIt, todoPast, todoAt, todoOf, firstReg, ↓reduceIte, Option.some.injEq, Nat.reduceEqDiff, reduceCtorEq, Try.f7]
    rw [execL_inLoop]
    simp (maxSteps := 1000000) (implicitDefEqProofs := false) (disch := first | rfl | omega | assumption) only [go_sem, g2, g5, g6, g8, g16, g17, g101, g102, g103, ltT, ltF, leT, leF, hk', s1, s2, t1, t2, hlp, hlf, hlt, hI, hA]
    done
  | succ q ih =>
    intro j hj acc a G h1 h2 h3 h4 E g2 g5 g6 g8 g16 g17 g101 g102 g103
    have hk' : (j : Int) < ((ps.length : Nat) : Int) := by omega
    have hk2 : j < ps.length := by omega
    have hlt := fun N => ltL_map (f := I) (N := N) (fun _ => rfl) acc
    have hd : ps.drop j = ps.getD j (0, 0) :: ps.drop (j + 1) := by rw [List.drop_eq_getElem_cons hk2]; simp [hk2]
    have hmem : ps.getD j (0, 0) ∈ ps := by simp only [List.getD_eq_getElem?_getD, List.getElem?_eq_getElem hk2, Option.getD_some]; exact List.getElem_mem hk2
    obtain ⟨⟨lo, hi⟩, en⟩ : ∃ p, ps.getD j (0, 0) = p := ⟨_, rfl⟩
    have hpb := hps _ hmem
    rw [en] at hd hpb
    simp only at hpb
    have hfl : flatS ((lo, hi) :: ps.drop (j + 1)) = upF lo (hi + 1 - lo).toNat ++ flatS (ps.drop (j + 1)) := by simp [flatS, flat1]
    rw [hd, hfl, List.foldl_append] at h1 h2
    rw [hd, hfl, List.length_append] at h4
    have hul : (upF lo (hi + 1 - lo).toNat).length = (hi + 1 - lo).toNat := by simp [upF]
    rw [hul] at h4
    have hrd := fun x : Int × Int => (show readPart (spA x).cells 0 ⟨.struct [(0, 3), (1, 3)], 2, 16, some (.agg #[.int .i64 0, .int .i64 0])⟩ = some (.agg [I x.1, I x.2]) from rfl)
    obtain ⟨ac1, hac1⟩ : ∃ x, (upF lo (hi + 1 - lo).toNat).foldl (wstep (f.w c)) acc = x := ⟨_, rfl⟩
    obtain ⟨b1, hb1⟩ : ∃ x, (upF lo (hi + 1 - lo).toNat).foldl (fun a x => orP a (ptZ (f.w c) x)) a = x := ⟨_, rfl⟩
    rw [hac1] at h1
    rw [hb1] at h2
    have hla : ac1.length ≤ acc.length + (hi + 1 - lo).toNat := by
      have := wfold_len (f.w c) (upF lo (hi + 1 - lo).toNat) acc
      rw [hul, hac1] at this; exact this
    have hlb : b1 < 2 ^ 20 := by rw [← hb1]; exact ofold_lt (by have := ho.wave c hc; omega) _ _ h3
    simp only [loopIt, todoPast, todoAt, todoOf, firstReg, ↓reduceIte, Option.some.injEq, Nat.reduceEqDiff, reduceCtorEq, Try.f7]
    rw [execL_inLoop]
    simp (maxSteps := 1000000) (implicitDefEqProofs := false) (disch := first | rfl | omega | assumption) only [go_sem, g2, g5, g6, g8, g16, g17, g101, g102, g103, ltT, ltF, leT, leF, hk', s1, s2, t1, t2, hlp, hlf, hlt, a1, a2, a3, a4, en, hrd, hpb]
    refine fw_in ho hf c hc lo hi (by omega) _ _ _ _ _ ac1 b1 _ _ (fun E k2 k5 k6 k8 k16 k17 k101 k102 k103 => ?_) (hi + 1 - lo).toNat 0 (by omega) acc a (by rw [show lo + ((0 : Nat) : Int) = lo by omega]; exact hac1) (by rw [show lo + ((0 : Nat) : Int) = lo by omega]; exact hb1) h3 (by omega) _ (by rfl) (by rfl) (by rfl) (by rfl) (by rfl) (by rfl) (by rfl) (by rw [show lo + ((0 : Nat) : Int) = lo by omega]; rfl) (by rfl) (by rfl) (by rfl)
    simp (maxSteps := 1000000) (implicitDefEqProofs := false) (disch := first | rfl | omega | assumption) only [go_sem, ltT, ltF, leT, leF, k103]
    exact ih (j + 1) (by omega) ac1 b1 _ h1 h2 hlb (by omega) _ (by exact k2) (by exact k5) (by exact k6) (by exact k8) (by exact k16) (by exact k17) (by exact k101) (by exact k102) (by rfl)

theorem flat_len : ∀ (ps : List (Int × Int)), (∀ p ∈ ps, p.1 ≤ p.2) → ps.length ≤ (flatS ps).length
  | [], _ => by simp
  | p :: r, h => by
    have h1 := flat_len r fun q hq => h q (List.mem_cons_of_mem _ hq)
    have h2 := h p List.mem_cons_self
    have h3 : (flat1 p).length = (p.2 + 1 - p.1).toNat := by simp [flat1, upF]
    simp only [flatS, List.flatMap_cons, List.length_append, List.length_cons] at h1 ⊢
    omega

theorem spans_bd {f : Frg} (ho : f.Ok) (s : Nat) : (∀ p ∈ spans (f.lens s), 0 ≤ p.1 ∧ p.1 ≤ p.2 ∧ p.2 ≤ 2000 ∧ p.2 - p.1 ≤ 400 ∧ f.lo ≤ p.1 ∧ p.2 ≤ f.hi) ∧ (spans (f.lens s)).length ≤ 401 := by
  obtain ⟨h1, h2⟩ := flat_spans (f.lens s)
  have hb := lens_bd ho s
  have hl := ho.len
  refine ⟨fun p hp => ?_, ?_⟩
  · have h3 := h2 p hp
    have m1 : p.1 ∈ f.lens s := by rw [← h1]; exact mem_flatS.2 ⟨p, hp, by omega⟩
    have m2 : p.2 ∈ f.lens s := by rw [← h1]; exact mem_flatS.2 ⟨p, hp, by omega⟩
    have k1 := (mem_lens ho s p.1).1 m1
    have k2 := (mem_lens ho s p.2).1 m2
    omega
  · have := flat_len _ h2
    rw [h1] at this
    omega

theorem law_FringeWhole {f : Frg} {vw vr : AV} (hf : FrAt H f vw vr) (n1 : Int) (w1 : 0 ≤ n1 ∧ n1 ≤ 255) :
    callFL cfg0 prog0 false 7 [.agg [vw, I f.lo, I f.hi, vr], .int .u8 n1] H none = some ⟨.ret (.bool true), H, none⟩ := by
  have s1 := hf.ws.scal
  have s2 := hf.rs.scal
  have l1 := hf.ws.len
  rw [List.length_map] at l1
  have hL := law_long (hf.app [.box (.agg [vw, I f.lo, I f.hi, vr])])
  have hA := fun G : Heap => law_alive G
  by_cases hlg : 40 < f.ws.length ∨ 40 < f.rs.length
  · rw [decide_eq_true hlg] at hL
    refine (callFL_eq fn7 rfl (by simp [Try.f7])).trans ?_
    simp (maxSteps := 1000000) (implicitDefEqProofs := false) (disch := first | rfl | omega | assumption) only [go_sem, ltT, ltF, leT, leF, s1, s2, hL, hA]
    done
  rw [decide_eq_false hlg] at hL
  have hl : f.ws.length ≤ 1000 ∧ f.rs.length ≤ 1000 := by omega
  have hF := rf_Fringe (hf.app [.box (.agg [vw, I f.lo, I f.hi, vr])]) hl
  cases hv : f.valid
  · simp only [hv] at hF
    refine (callFL_eq fn7 rfl (by simp [Try.f7])).trans ?_
    simp (maxSteps := 1000000) (implicitDefEqProofs := false) (disch := first | rfl | omega | assumption) only [go_sem, ltT, ltF, leT, leF, s1, s2, hL, hA, hF]
    done
  have ho := f.valid_iff.1 hv
  have hm4 := ho.many
  obtain ⟨c, hc⟩ : ∃ c : Nat, n1 % (f.ws.length : Int) = c := ⟨(n1 % (f.ws.length : Int)).toNat, by have := Int.emod_nonneg n1 (show (f.ws.length : Int) ≠ 0 by omega); omega⟩
  have hc2 : c < f.ws.length := by have := Int.emod_lt_of_pos n1 (show (0 : Int) < f.ws.length by omega); omega
  have e2 : n1.tmod (f.ws.length : Int) = c := by rw [Int.tmod_eq_emod_of_nonneg w1.1]; exact hc
  have z1 : ¬ (f.ws.length : Int) = 0 := by omega
  have hwc := ho.wave c hc2
  have k1 : wi (c : Int) 0 ((f.ws.length : Int) - 1) = true := by simp [wi]; omega
  have k2 : wi (f.ws.length : Int) 0 ((f.ws.length : Int) - 1) = false := by simp [wi]; omega
  have k3 : wi (-1) 0 ((f.ws.length : Int) - 1) = false := by simp [wi]
  have hW := fr_Whole (hf.app [.box (.agg [vw, I f.lo, I f.hi, vr])]) hl c
  have hP := fr_Parts (hf.app [.box (.agg [vw, I f.lo, I f.hi, vr])]) hl c
  have hN := fr_Lengths (hf.app [.box (.agg [vw, I f.lo, I f.hi, vr])]) hl
  have hW2 := fr_Whole (hf.app [.box (.agg [vw, I f.lo, I f.hi, vr])]) hl f.ws.length
  have hP2 := fr_Parts (hf.app [.box (.agg [vw, I f.lo, I f.hi, vr])]) hl (-1)
  simp only [hv, if_true, Frg.whole, Frg.parts, k1, k2, k3, Bool.false_eq_true, if_false, Int.toNat_natCast] at hF hW hP hN hW2 hP2
  have d2 : (!decide ((2 : Int) = 0)) = true := rfl
  have d10 : (!decide ((10 : Int) = 0)) = true := rfl
  have d0 : (!decide ((0 : Int) = 0)) = false := rfl
  simp only [d2, List.map_nil] at hW2
  cases hq : (f.lens f.all).isEmpty
  · simp only [hq, Bool.false_eq_true, if_false, d0, Frg.cnt, parts_all, whole_all (show 0 < f.w c by omega) (lens_up f f.all)] at hW hP hN
    obtain ⟨b1, b2⟩ := spans_bd ho f.all
    have hfs := (flat_spans (f.lens f.all)).1
    have hxl := (lens_bd ho f.all).1
    have hwl := wfold_len (f.w c) (f.lens f.all) []
    have hend := fw_out ho hf c hc2 (spans (f.lens f.all)) (fun p hp => by have := b1 p hp; omega) (by omega) (allW (f.w c) (f.lens f.all)) (allP (f.w c) (f.lens f.all)) (by simp only [allW]; simp only [List.length_nil] at hwl; omega) (spans (f.lens f.all)).length 0 (by omega) [] 0 [] (by rw [List.drop_zero, hfs]; rfl) (by rw [List.drop_zero, hfs]; rfl) (by decide) (by rw [List.drop_zero, hfs]; simp only [List.length_nil]; omega)
    have hsl : ((spans (f.lens f.all)).map spA).length = (spans (f.lens f.all)).length := List.length_map _
    generalize allW (f.w c) (f.lens f.all) = wl at *
    generalize allP (f.w c) (f.lens f.all) = pl at *
    generalize spans (f.lens f.all) = sp at *
    refine (callFL_eq fn7 rfl (by simp [Try.f7])).trans ?_
    simp (maxSteps := 1000000) (implicitDefEqProofs := false) (disch := first | rfl | omega | assumption) only [go_sem, ltT, ltF, leT, leF, s1, s2, l1, hL, hA, hF, e2, z1, hW, hP, hN, hW2, hP2, hsl]
    exact hend _ (by rfl) (by rfl) (by rfl) (by rfl) (by rfl) (by rfl) (by rfl) (by rfl) (by rfl)
  · simp only [hq, if_true, d10, List.map_nil] at hW hP hN
    refine (callFL_eq fn7 rfl (by simp [Try.f7])).trans ?_
    simp (maxSteps := 1000000) (implicitDefEqProofs := false) (disch := first | rfl | omega | assumption) only [go_sem, ltT, ltF, leT, leF, s1, s2, l1, hL, hA, hF, e2, z1, hW, hP, hN, hW2, hP2]
    done

end Go.Ab
