/-
  FringeMore, walked: its loops.
-/
import Derived.Test.YtcalhkhkiahecaaKK6
import Derived.Test.YtcalhkhkiahecaaKK5
namespace Go.Ab
open Go.Proofs
set_option linter.unusedSimpArgs false
set_option linter.unusedVariables false
set_option maxRecDepth 100000
set_option maxHeartbeats 2000000

variable {H : Heap}


theorem rev_take {f : Frg} {j : Nat} (h : j < f.ws.length) : f.rev.ws.take (j + 1) = f.rev.ws.take j ++ [f.ws.getD (f.ws.length - 1 - j) 0] := by
  have hl : j < f.rev.ws.length := by rw [rev_wl]; exact h
  rw [List.take_succ_eq_append_getElem hl]
  have := rev_w f h
  simp only [Frg.w, List.getD_eq_getElem?_getD, List.getElem?_eq_getElem hl, Option.getD_some] at this
  rw [this, List.getD_eq_getElem?_getD]

theorem rev_take2 {f : Frg} {j : Nat} (h : j < f.rs.length) : f.rev.rs.take (j + 1) = f.rev.rs.take j ++ [f.rvR (f.r (f.rs.length - 1 - j))] := by
  have hl : j < f.rev.rs.length := by rw [rev_rl]; exact h
  rw [List.take_succ_eq_append_getElem hl]
  have := rev_r f h
  simp only [Frg.r, List.getD_eq_getElem?_getD, List.getElem?_eq_getElem hl, Option.getD_some] at this
  rw [this]
  simp only [Frg.r, List.getD_eq_getElem?_getD]

theorem mv_ws {f : Frg} {vw vr : AV} (ho : f.Ok) (hf : FrAt H f vw vr) {b1 b2 b3 b4 : AO} (c : Nat) (G : Heap) (K : List Item) (R : Option Done) (hK : ∀ E : Env, E.get 3 = .ptr H.length 0 → E.get 7 = I f.ws.length → E.get 8 = I c → E.get 9 = .ptr (H.length + 2) 0 → E.get 10 = .ptr (H.length + 3) 0 → E.get 11 = .ptr (H.length + 4) 0 → E.get 12 = .ptr (H.length + 5) 0 → Option.map (finishC H.length) (execL cfg0 prog0 ⟨10, none, false, H.length⟩ K ⟨E, [], H ++ (.box (.agg [vw, I f.lo, I f.hi, vr]) :: b1 :: b2 :: b3 :: b4 :: .box (.agg [.gsl (H.length + 6) f.ws.length, I f.lo, I f.hi, .gsl (H.length + 7) 0]) :: .grow 1 (f.rev.ws.map I) :: .grow 3 ([]) :: G), none⟩) = R)  :
    ∀ (q j : Nat), j + q = f.ws.length → ∀ E : Env, E.get 3 = .ptr H.length 0 → E.get 7 = I f.ws.length → E.get 8 = I c → E.get 9 = .ptr (H.length + 2) 0 → E.get 10 = .ptr (H.length + 3) 0 → E.get 11 = .ptr (H.length + 4) 0 → E.get 12 = .ptr (H.length + 5) 0 → E.get 122 = I f.ws.length → E.get 123 = I j →
    Option.map (finishC H.length) (execL cfg0 prog0 ⟨10, none, false, H.length⟩ (loopIt Try.f10 13 :: .inBlock 0 :: K) ⟨E, [], H ++ (.box (.agg [vw, I f.lo, I f.hi, vr]) :: b1 :: b2 :: b3 :: b4 :: .box (.agg [.gsl (H.length + 6) j, I f.lo, I f.hi, .gsl (H.length + 7) 0]) :: .grow 1 ((f.rev.ws.take j).map I) :: .grow 3 ([]) :: G), none⟩) = R := by
  intro q
  obtain ⟨a1, a2, a3, a4, a5⟩ := hf.ws.fF (d := 0)
  have s1 := hf.ws.scal
  have s2 := hf.rs.scal
  have h4 := ho.many
  induction q with
  | zero =>
    intro j hj  E g3 g7 g8 g9 g10 g11 g12 g122 g123
    have hk' : ¬ (j : Int) < ((f.ws.length : Nat) : Int) := by omega
    have ej : j = f.ws.length := by omega
    subst ej
    have et : f.rev.ws.take f.ws.length = f.rev.ws := List.take_of_length_le (by rw [rev_wl]; exact Nat.le_refl _)
    rw [et]
    simp only [loopIt, todoPast, todoAt, todoOf, firstReg, ↓reduceIte, Option.some.injEq, Nat.reduceEqDiff, reduceCtorEq, Try.f10]
    rw [execL_inLoop]
    simp (maxSteps := 1000000) (implicitDefEqProofs := false) (disch := first | rfl | omega | assumption) only [go_sem, g3, g7, g8, g9, g10, g11, g12, g122, g123, ltT, ltF, leT, leF, hk']
    exact hK _ (by exact g3) (by exact g7) (by exact g8) (by exact g9) (by exact g10) (by exact g11) (by exact g12)
  | succ q ih =>
    intro j hj  E g3 g7 g8 g9 g10 g11 g12 g122 g123
    have hk' : (j : Int) < ((f.ws.length : Nat) : Int) := by omega
    have hk2 : j < f.ws.length := by omega
    have key := ih (j + 1) (by omega)
    have e1 : (f.ws.length : Int) - 1 - j = ((f.ws.length - 1 - j : Nat) : Int) := by omega
    obtain ⟨x, hx⟩ : ∃ x, f.ws.getD (f.ws.length - 1 - j) 0 = x := ⟨_, rfl⟩
    rw [rev_take hk2, hx] at key
    have hlt : ((f.ws.length - 1 - j : Nat) : Int) < f.ws.length := by omega
    have hlj : ((f.rev.ws.take j).map I).length = j := by rw [List.length_map, List.length_take, rev_wl]; omega
    have hadd : addElem (H ++ (.box (.agg [vw, I f.lo, I f.hi, vr]) :: b1 :: b2 :: b3 :: b4 :: .box (.agg [.gsl (H.length + 6) j, I f.lo, I f.hi, .gsl (H.length + 7) 0]) :: .grow 1 ((f.rev.ws.take j).map I) :: .grow 3 ([]) :: G)) 1 false (.gsl (H.length + 6) j) [I x] = some (.gsl (H.length + 6) (j + 1), H ++ (.box (.agg [vw, I f.lo, I f.hi, vr]) :: b1 :: b2 :: b3 :: b4 :: .box (.agg [.gsl (H.length + 6) j, I f.lo, I f.hi, .gsl (H.length + 7) 0]) :: .grow 1 ((f.rev.ws.take j ++ [x]).map I) :: .grow 3 ([]) :: G)) := by
      rw [add_gsl (xs := (f.rev.ws.take j).map I) (by rw [get_at']; rfl) hlj rfl rfl (by simp; omega), set_at', List.map_append]
      rfl
    simp only [loopIt, todoPast, todoAt, todoOf, firstReg, ↓reduceIte, Option.some.injEq, Nat.reduceEqDiff, reduceCtorEq, Try.f10]
    rw [execL_inLoop]
    simp (maxSteps := 1000000) (implicitDefEqProofs := false) (disch := first | rfl | omega | assumption) only [go_sem, g3, g7, g8, g9, g10, g11, g12, g122, g123, ltT, ltF, leT, leF, hk', s1, s2]
    rw [chkK_of]; rotate_left; kernel_rfl
    simp (maxSteps := 1000000) (implicitDefEqProofs := false) (disch := first | rfl | omega | assumption) only [go_sem, g3, g7, g8, g9, g10, g11, g12, g122, g123, ltT, ltF, leT, leF, hk', s1, s2, a1, a2, a3, a4, e1, hlt, hx, hadd]
    exact key _ (by exact g3) (by exact g7) (by exact g8) (by exact g9) (by exact g10) (by exact g11) (by exact g12) (by exact g122) (by rfl)

theorem mv_rs {f : Frg} {vw vr : AV} (ho : f.Ok) (hf : FrAt H f vw vr) {b1 b2 b3 b4 : AO} (hb1 : b1.lt (H.length + 8) = true) (hb2 : b2.lt (H.length + 8) = true) (hb3 : b3.lt (H.length + 8) = true) (hb4 : b4.lt (H.length + 8) = true) (c : Nat) (K : List Item) (R : Option Done) (hK : ∀ E : Env, E.get 3 = .ptr H.length 0 → E.get 7 = I f.ws.length → E.get 8 = I c → E.get 9 = .ptr (H.length + 2) 0 → E.get 10 = .ptr (H.length + 3) 0 → E.get 11 = .ptr (H.length + 4) 0 → E.get 12 = .ptr (H.length + 5) 0 → Option.map (finishC H.length) (execL cfg0 prog0 ⟨10, none, false, H.length⟩ K ⟨E, [], H ++ (.box (.agg [vw, I f.lo, I f.hi, vr]) :: b1 :: b2 :: b3 :: b4 :: .box (.agg [.gsl (H.length + 6) f.ws.length, I f.lo, I f.hi, .gsl (H.length + 7) f.rs.length]) :: .grow 1 (f.rev.ws.map I) :: .grow 3 (f.rev.rs.map Rd.av) :: []), none⟩) = R)  :
    ∀ (q j : Nat), j + q = f.rs.length → ∀ (G : Heap), ∀ E : Env, E.get 3 = .ptr H.length 0 → E.get 7 = I f.ws.length → E.get 8 = I c → E.get 9 = .ptr (H.length + 2) 0 → E.get 10 = .ptr (H.length + 3) 0 → E.get 11 = .ptr (H.length + 4) 0 → E.get 12 = .ptr (H.length + 5) 0 → E.get 142 = I f.rs.length → E.get 143 = I j →
    Option.map (finishC H.length) (execL cfg0 prog0 ⟨10, none, false, H.length⟩ (loopIt Try.f10 18 :: .inBlock 2 :: K) ⟨E, [], H ++ (.box (.agg [vw, I f.lo, I f.hi, vr]) :: b1 :: b2 :: b3 :: b4 :: .box (.agg [.gsl (H.length + 6) f.ws.length, I f.lo, I f.hi, .gsl (H.length + 7) j]) :: .grow 1 (f.rev.ws.map I) :: .grow 3 ((f.rev.rs.take j).map Rd.av) :: G), none⟩) = R := by
  intro q
  obtain ⟨a1, a2, a3, a4, a5⟩ := hf.rs.fF (d := rd0)
  have s1 := hf.ws.scal
  have s2 := hf.rs.scal
  have t1 := hf.ws.ltn 8
  have t2 := hf.rs.ltn 8
  have h4 := ho.many
  have h6 := ho.reads
  have hltI := fun (N : Nat) (l : List Int) => ltI (N := N) l
  have hlt := fun (N : Nat) (l : List Rd) => ltL_map (f := Rd.av) (N := N) (fun _ => rfl) l
  have l2 := hf.rs.len
  rw [List.length_map] at l2
  induction q with
  | zero =>
    intro j hj G E g3 g7 g8 g9 g10 g11 g12 g142 g143
    have hk' : ¬ (j : Int) < ((f.rs.length : Nat) : Int) := by omega
    have ej : j = f.rs.length := by omega
    subst ej
    have et : f.rev.rs.take f.rs.length = f.rev.rs := List.take_of_length_le (by rw [rev_rl]; exact Nat.le_refl _)
    rw [et]
    simp only [loopIt, todoPast, todoAt, todoOf, firstReg, ↓reduceIte, Option.some.injEq, Nat.reduceEqDiff, reduceCtorEq, Try.f10]
    rw [execL_inLoop]
    simp (maxSteps := 1000000) (implicitDefEqProofs := false) (disch := first | rfl | omega | assumption) only [go_sem, g3, g7, g8, g9, g10, g11, g12, g142, g143, ltT, ltF, leT, leF, hk', s1, s2, t1, t2, hb1, hb2, hb3, hb4, hltI, hlt]
    exact hK _ (by rfl) (by rfl) (by rfl) (by rfl) (by rfl) (by rfl) (by rfl)
  | succ q ih =>
    intro j hj G E g3 g7 g8 g9 g10 g11 g12 g142 g143
    have hk' : (j : Int) < ((f.rs.length : Nat) : Int) := by omega
    have hk2 : j < f.rs.length := by omega
    have key := ih (j + 1) (by omega)
    have e1 : (f.rs.length : Int) - 1 - j = ((f.rs.length - 1 - j : Nat) : Int) := by omega
    obtain ⟨x, hx⟩ : ∃ x, f.rs.getD (f.rs.length - 1 - j) rd0 = x := ⟨_, rfl⟩
    have hxo := ho.rd (f.rs.length - 1 - j) (by omega)
    rw [show f.r (f.rs.length - 1 - j) = x from hx] at hxo
    rw [rev_take2 hk2, show f.r (f.rs.length - 1 - j) = x from hx] at key
    simp only [Frg.rvR] at key
    have hrd := fun x : Rd => (show readPart x.av.cells 0 ⟨.struct [(0, 3), (1, 29)], 3, 24, some (.agg #[.int .i64 0, .int .i64 0, .int .i64 0])⟩ = some (.agg [I x.c, I x.lo, I x.hi]) from rfl)
    have hltj : ((f.rs.length - 1 - j : Nat) : Int) < f.rs.length := by omega
    have hlj : ((f.rev.rs.take j).map Rd.av).length = j := by rw [List.length_map, List.length_take, rev_rl]; omega
    have hadd : ∀ o0 : AO, addElem (H ++ (.box (.agg [vw, I f.lo, I f.hi, vr]) :: b1 :: b2 :: b3 :: b4 :: .box (.agg [.gsl (H.length + 6) f.ws.length, I f.lo, I f.hi, .gsl (H.length + 7) j]) :: .grow 1 (f.rev.ws.map I) :: .grow 3 ((f.rev.rs.take j).map Rd.av) :: [o0])) 3 true (.gsl (H.length + 7) j) [.agg [I ((f.ws.length : Int) - 1 - x.c), I x.lo, I x.hi]] = some (.gsl (H.length + 7) (j + 1), H ++ (.box (.agg [vw, I f.lo, I f.hi, vr]) :: b1 :: b2 :: b3 :: b4 :: .box (.agg [.gsl (H.length + 6) f.ws.length, I f.lo, I f.hi, .gsl (H.length + 7) j]) :: .grow 1 (f.rev.ws.map I) :: .grow 3 ((f.rev.rs.take j ++ [(⟨(f.ws.length : Int) - 1 - x.c, x.lo, x.hi⟩ : Rd)]).map Rd.av) :: [o0])) := by
      intro o0
      rw [add_gsl (xs := (f.rev.rs.take j).map Rd.av) (by rw [get_at']; rfl) hlj rfl rfl (by simp; omega), set_at', List.map_append]
      rfl
    simp only [loopIt, todoPast, todoAt, todoOf, firstReg, ↓reduceIte, Option.some.injEq, Nat.reduceEqDiff, reduceCtorEq, Try.f10]
    rw [execL_inLoop]
    simp (maxSteps := 1000000) (implicitDefEqProofs := false) (disch := first | rfl | omega | assumption) only [go_sem, g3, g7, g8, g9, g10, g11, g12, g142, g143, ltT, ltF, leT, leF, hk', s1, s2, t1, t2, hb1, hb2, hb3, hb4, hltI, hlt, l2, a1, a2, a3, a4, e1, hltj, hx, hrd, hadd]
    exact key [.box (.agg [I x.c, I x.lo, I x.hi])] _ (by rfl) (by rfl) (by rfl) (by rfl) (by rfl) (by rfl) (by rfl) (by rfl) (by rfl)

theorem same3 (a b c : Int) : sameL [I a, I b, I c] [I a, I b, I c] = true := by simp [sameL, AV.same]

theorem mv_cmp {f : Frg} {vw vr : AV} (hf : FrAt H f vw vr) {b1 b2 b3 b4 b5 : AO} (hlr : f.rs.length ≤ 1000) :
    ∀ (q j : Nat), j + q = f.rs.length → ∀ E : Env, E.get 3 = .ptr H.length 0 → E.get 18 = .sl false (f.rs.map Rd.av) → E.get 381 = I f.rs.length → E.get 382 = I j →
    Option.map (finishC H.length) (execL cfg0 prog0 ⟨10, none, false, H.length⟩ (todoAt Try.f10 49) ⟨E, [], H ++ [.box (.agg [vw, I f.lo, I f.hi, vr]), b1, b2, b3, b4, b5], none⟩) = some ⟨.ret (.bool true), H, none⟩ := by
  intro q
  obtain ⟨a1, a2, a3, a4, a5⟩ := hf.rs.fF (d := rd0)
  obtain ⟨c1, c2, c3, c4, c5⟩ := (show SlOk H 3 (.sl false (f.rs.map Rd.av)) (f.rs.map Rd.av) from ⟨rfl, fun x hx => by obtain ⟨i, _, rfl⟩ := List.mem_map.1 hx; rfl⟩).fF (d := rd0)
  have s1 := hf.ws.scal
  have s2 := hf.rs.scal
  have hA := fun G : Heap => law_alive G
  induction q with
  | zero =>
    intro j hj  E g3 g18 g381 g382
    have hk' : ¬ (j : Int) < ((f.rs.length : Nat) : Int) := by omega
    simp only [loopIt, todoPast, todoAt, todoOf, firstReg, ↓reduceIte, Option.some.injEq, Nat.reduceEqDiff, reduceCtorEq, Try.f10]
    rw [execL_inLoop]
    simp (maxSteps := 1000000) (implicitDefEqProofs := false) (disch := first | rfl | omega | assumption) only [go_sem, g3, g18, g381, g382, ltT, ltF, leT, leF, hk', hA]
    done
  | succ q ih =>
    intro j hj  E g3 g18 g381 g382
    have hk' : (j : Int) < ((f.rs.length : Nat) : Int) := by omega
    have hk2 : j < f.rs.length := by omega
    obtain ⟨x, hx⟩ : ∃ x, f.rs.getD j rd0 = x := ⟨_, rfl⟩
    have hrd := fun x : Rd => (show readPart x.av.cells 0 ⟨.struct [(0, 3), (1, 29)], 3, 24, some (.agg #[.int .i64 0, .int .i64 0, .int .i64 0])⟩ = some (.agg [I x.c, I x.lo, I x.hi]) from rfl)
    simp only [loopIt, todoPast, todoAt, todoOf, firstReg, ↓reduceIte, Option.some.injEq, Nat.reduceEqDiff, reduceCtorEq, Try.f10]
    rw [execL_inLoop]
    simp (maxSteps := 1000000) (implicitDefEqProofs := false) (disch := first | rfl | omega | assumption) only [go_sem, g3, g18, g381, g382, ltT, ltF, leT, leF, hk', s1, s2]
    rw [chkK_of]; rotate_left; kernel_rfl
    simp (maxSteps := 1000000) (implicitDefEqProofs := false) (disch := first | rfl | omega | assumption) only [go_sem, g3, g18, g381, g382, ltT, ltF, leT, leF, hk', s1, s2, a1, a2, a3, a4, c1, c2, c3, c4, hx, hrd, same3]
    exact ih (j + 1) (by omega) _ (by exact g3) (by exact g18) (by exact g381) (by rfl)

structure Q where
  g : Frg
  w : AV
  r : AV

def Q.av (q : Q) : AV := .agg [q.w, I q.g.lo, I q.g.hi, q.r]
def q0 : Q := ⟨⟨[], 0, 0, []⟩, .sl true [], .sl true []⟩

/-- What is told of a fringe that is looked at: nothing, or no less exactly. -/
structure QOk (H : Heap) (f : Frg) (c : Nat) (one : Bool) (q : Q) : Prop where
  at_ : FrAt H q.g q.w q.r
  le : q.g.ws.length ≤ 1000 ∧ q.g.rs.length ≤ 1000
  ws : q.g.ws.length = f.ws.length
  lw : q.w.lt 0 = true
  lr : q.r.lt 0 = true
  fine : q.g.Ok → Fine f q.g c one

theorem ltQ {H : Heap} {f : Frg} {c : Nat} (N : Nat) (k : Nat) : ∀ (l : List Q), (∀ q ∈ l, ∃ b, QOk H f c b q) → ltL (H.length + k) (l.map Q.av) = true
  | [], _ => rfl
  | q :: r, h => by
    obtain ⟨b, hq⟩ := h q List.mem_cons_self
    have h1 := ltQ N k r (fun x hx => h x (List.mem_cons_of_mem _ hx))
    have t1 := hq.at_.ws.ltn k
    have t2 := hq.at_.rs.ltn k
    simp only [List.map_cons, ltL, Q.av, AV.lt, t1, t2, h1, Bool.and_self]

theorem mv_q {f : Frg} {vw vr : AV} (ho : f.Ok) (hf : FrAt H f vw vr) {b1 b2 b3 b4 b5 : AO} (hb1 : b1.lt (H.length + 6) = true) (hb2 : b2.lt (H.length + 6) = true) (hb3 : b3.lt (H.length + 6) = true) (hb4 : b4.lt (H.length + 6) = true) (hb5 : b5.lt (H.length + 6) = true) (c : Nat) (hc : c < f.ws.length) (v17 v18 v19 : AV) (h17 : v17.lt (H.length + 6) = true) (h18 : v18.lt (H.length + 6) = true) (h19 : v19.lt (H.length + 6) = true) (e20 e28 : Int) (o : Nat) (hwr : f.wrong = ((pop o : Int), (o : Int), 0)) (qs : List Q) (hq : ∀ i, i < qs.length → QOk H f c (decide (i = 0)) (qs.getD i q0)) (hql : qs.length ≤ 3) (K : List Item) (R : Option Done) (hK : ∀ E : Env, E.get 3 = .ptr H.length 0 → E.get 7 = I f.ws.length → E.get 8 = I c → E.get 12 = .ptr (H.length + 5) 0 → E.get 17 = v17 → E.get 18 = v18 → E.get 19 = v19 → E.get 20 = I e20 → E.get 21 = I (f.lens f.all).length → E.get 22 = I 0 → E.get 23 = I (f.parts c).1 → E.get 24 = I e20 → E.get 25 = I (pop o) → E.get 27 = I 0 → E.get 28 = I e28 → E.get 29 = I 0 → Option.map (finishC H.length) (execL cfg0 prog0 ⟨10, none, false, H.length⟩ K ⟨E, [], H ++ [.box (.agg [vw, I f.lo, I f.hi, vr]), b1, b2, b3, b4, b5], none⟩) = R)  :
    ∀ (q j : Nat), j + q = qs.length → ∀ (G : Heap), ∀ E : Env, E.get 3 = .ptr H.length 0 → E.get 7 = I f.ws.length → E.get 8 = I c → E.get 12 = .ptr (H.length + 5) 0 → E.get 17 = v17 → E.get 18 = v18 → E.get 19 = v19 → E.get 20 = I e20 → E.get 21 = I (f.lens f.all).length → E.get 22 = I 0 → E.get 23 = I (f.parts c).1 → E.get 24 = I e20 → E.get 25 = I (pop o) → E.get 27 = I 0 → E.get 28 = I e28 → E.get 29 = I 0 → E.get 223 = .sl true (qs.map Q.av) → E.get 224 = I qs.length → E.get 225 = I j →
    Option.map (finishC H.length) (execL cfg0 prog0 ⟨10, none, false, H.length⟩ (loopIt Try.f10 32 :: .inBlock 4 :: K) ⟨E, [], H ++ (.box (.agg [vw, I f.lo, I f.hi, vr]) :: b1 :: b2 :: b3 :: b4 :: b5 :: G), none⟩) = R := by
  intro q
  have s1 := hf.ws.scal
  have s2 := hf.rs.scal
  have t1 := hf.ws.ltn 6
  have t2 := hf.rs.ltn 6
  have hQl : ltL (H.length + 6) (qs.map Q.av) = true := ltQ (f := f) (c := c) 0 6 qs (fun q hm => by
    obtain ⟨i, hi, e⟩ := List.getElem_of_mem hm
    have := hq i hi
    rw [show qs.getD i q0 = q by simp [hi, e]] at this
    exact ⟨_, this⟩)
  induction q with
  | zero =>
    intro j hj G E g3 g7 g8 g12 g17 g18 g19 g20 g21 g22 g23 g24 g25 g27 g28 g29 g223 g224 g225
    have hk' : ¬ (j : Int) < ((qs.length : Nat) : Int) := by omega
    simp only [loopIt, todoPast, todoAt, todoOf, firstReg, ↓reduceIte, Option.some.injEq, Nat.reduceEqDiff, reduceCtorEq, Try.f10]
    rw [execL_inLoop]
    simp (maxSteps := 1000000) (implicitDefEqProofs := false) (disch := first | rfl | omega | assumption) only [go_sem, g3, g7, g8, g12, g17, g18, g19, g20, g21, g22, g23, g24, g25, g27, g28, g29, g223, g224, g225, ltT, ltF, leT, leF, hk', s1, s2, t1, t2, hb1, hb2, hb3, hb4, hb5, h17, h18, h19, hQl]
    exact hK _ (by rfl) (by rfl) (by rfl) (by rfl) (by rfl) (by rfl) (by rfl) (by rfl) (by rfl) (by rfl) (by rfl) (by rfl) (by rfl) (by rfl) (by rfl) (by rfl)
  | succ q ih =>
    intro j hj G E g3 g7 g8 g12 g17 g18 g19 g20 g21 g22 g23 g24 g25 g27 g28 g29 g223 g224 g225
    have hk' : (j : Int) < ((qs.length : Nat) : Int) := by omega
    have hk2 : j < qs.length := by omega
    have hqj := hq j hk2
    obtain ⟨q, hqe⟩ : ∃ q, qs.getD j q0 = q := ⟨_, rfl⟩
    rw [hqe] at hqj
    obtain ⟨a1, a2, a3, a4, a5⟩ := (show SlOk H 4 (.sl true (qs.map Q.av)) (qs.map Q.av) from ⟨rfl, fun x hx => by obtain ⟨i, _, rfl⟩ := List.mem_map.1 hx; rfl⟩).fF (d := q0)
    have sq1 := hqj.at_.ws.scal
    have sq2 := hqj.at_.rs.scal
    have hqd : readPart (Q.av q).cells 0 ⟨.struct [(0, 27), (1, 29), (3, 30)], 4, 64, some (.agg #[.slice none 0 0, .int .i64 0, .int .i64 0, .slice none 0 0])⟩ = some (.agg [q.w, I q.g.lo, I q.g.hi, q.r]) := by
      simp only [go_sem, Q.av, sq1, sq2]
    have hF := fun G : Heap => rf_Fringe (hqj.at_.app G) hqj.le
    have hC := fun G : Heap => fr_Count (hqj.at_.app G) hqj.le
    have hP := fun G : Heap => fr_Parts (hqj.at_.app G) hqj.le c
    have hW := fun G : Heap => fr_Wrong (hqj.at_.app G) hqj.le
    have key := ih (j + 1) (by omega) [.box (.agg [q.w, I q.g.lo, I q.g.hi, q.r])]
    have hii : ∀ x : Int, (x == x) = true := fun x => by simp
    have hnn : ∀ x : Int, (x != x) = false := fun x => by simp
    have hbb : ∀ x : Bool, (x != x) = false := fun x => by cases x <;> rfl
    cases hv : q.g.valid
    · rw [hv] at hF
      simp only [loopIt, todoPast, todoAt, todoOf, firstReg, ↓reduceIte, Option.some.injEq, Nat.reduceEqDiff, reduceCtorEq, Try.f10]
      rw [execL_inLoop]
      simp (maxSteps := 1000000) (implicitDefEqProofs := false) (disch := first | rfl | omega | assumption) only [go_sem, g3, g7, g8, g12, g17, g18, g19, g20, g21, g22, g23, g24, g25, g27, g28, g29, g223, g224, g225, ltT, ltF, leT, leF, hk', s1, s2, sq1, sq2, t1, t2, hb1, hb2, hb3, hb4, hb5, h17, h18, h19, hQl, a1, a2, a3, a4, hqe, hqd, hF]
      exact key _ (by rfl) (by rfl) (by rfl) (by rfl) (by rfl) (by rfl) (by rfl) (by rfl) (by rfl) (by rfl) (by rfl) (by rfl) (by rfl) (by rfl) (by rfl) (by rfl) (by rfl) (by rfl) (by rfl)
    · rw [hv] at hF
      have og := q.g.valid_iff.1 hv
      have fine := hqj.fine og
      obtain ⟨o', w1, w2, w3, w4⟩ := wrong_is og
      obtain ⟨d1, d2⟩ := fine.wr o o' hwr w1
      rw [count_is og] at hC
      rw [parts_is og (by rw [hqj.ws]; exact hc)] at hP
      rw [w1] at hW
      have hcn := fine.cnt
      have hpt := fine.pts
      have hpi := parts_is ho hc
      have g1 := ofold_lt (w := q.g.w c) (by have := og.wave c (by rw [hqj.ws]; exact hc); omega) (q.g.lens q.g.all) 0 (by decide)
      have g2 := ofold_lt (w := f.w c) (by have := ho.wave c hc; omega) (f.lens f.all) 0 (by decide)
      have hno1 : ¬ (((pop o' : Nat) : Int) < ((pop o : Nat) : Int)) := by omega
      have hpo : pop o ≤ 20 := popF_le 20 o
      cases he : (q.g.lens q.g.all).isEmpty
      · have hpos : 0 < (q.g.lens q.g.all).length := by cases hx : q.g.lens q.g.all with | nil => rw [hx] at he; cases he | cons => simp
        have hef : (f.lens f.all).isEmpty = false := by cases hx : f.lens f.all with | nil => rw [hx] at hcn; simp at hcn; rw [hcn] at he; cases he | cons => rfl
        simp only [he, hef, Bool.false_eq_true, if_false] at hP hpi
        rw [hpi] at g23
        have hbn := bitsNotI (a := allP (q.g.w c) (q.g.lens q.g.all)) (b := allP (f.w c) (f.lens f.all)) (Nat.lt_trans g1 (by decide)) (Nat.lt_trans g2 (by decide))
        rw [hpt] at hbn
        have hgt : (0 : Int) < ((q.g.lens q.g.all).length : Nat) := by omega
        have hle : ¬ (((f.lens f.all).length : Nat) : Int) < ((q.g.lens q.g.all).length : Nat) := by omega
        generalize (q.g.lens q.g.all).length = la at *
        generalize (f.lens f.all).length = lf at *
        generalize allP (q.g.w c) (q.g.lens q.g.all) = pa at *
        generalize allP (f.w c) (f.lens f.all) = pf at *
        by_cases hj0 : j = 0
        · have ej : ((j : Int) == 0) = true := by rw [hj0]; rfl
          have d3 := d2 (by rw [hj0]; rfl)
          have hno2 : ¬ (((pop o : Nat) : Int) + 1 < ((pop o' : Nat) : Int)) := by omega
          simp only [loopIt, todoPast, todoAt, todoOf, firstReg, ↓reduceIte, Option.some.injEq, Nat.reduceEqDiff, reduceCtorEq, Try.f10]
          rw [execL_inLoop]
          simp (maxSteps := 1000000) (implicitDefEqProofs := false) (disch := first | rfl | omega | assumption) only [go_sem, g3, g7, g8, g12, g17, g18, g19, g20, g21, g22, g23, g24, g25, g27, g28, g29, g223, g224, g225, ltT, ltF, leT, leF, hk', s1, s2, sq1, sq2, t1, t2, hb1, hb2, hb3, hb4, hb5, h17, h18, h19, hQl, a1, a2, a3, a4, hqe, hqd, hF, hC, hP, hW, hii, hnn, hbb, hgt, hle, hbn, hno1, ej, hno2]
          exact key _ (by rfl) (by rfl) (by rfl) (by rfl) (by rfl) (by rfl) (by rfl) (by rfl) (by rfl) (by rfl) (by rw [hpi]; rfl) (by rfl) (by rfl) (by rfl) (by rfl) (by rfl) (by rfl) (by rfl) (by rfl)
        · have ej : ((j : Int) == 0) = false := by simp [hj0]
          simp only [loopIt, todoPast, todoAt, todoOf, firstReg, ↓reduceIte, Option.some.injEq, Nat.reduceEqDiff, reduceCtorEq, Try.f10]
          rw [execL_inLoop]
          simp (maxSteps := 1000000) (implicitDefEqProofs := false) (disch := first | rfl | omega | assumption) only [go_sem, g3, g7, g8, g12, g17, g18, g19, g20, g21, g22, g23, g24, g25, g27, g28, g29, g223, g224, g225, ltT, ltF, leT, leF, hk', s1, s2, sq1, sq2, t1, t2, hb1, hb2, hb3, hb4, hb5, h17, h18, h19, hQl, a1, a2, a3, a4, hqe, hqd, hF, hC, hP, hW, hii, hnn, hbb, hgt, hle, hbn, hno1, ej]
          exact key _ (by rfl) (by rfl) (by rfl) (by rfl) (by rfl) (by rfl) (by rfl) (by rfl) (by rfl) (by rfl) (by rw [hpi]; rfl) (by rfl) (by rfl) (by rfl) (by rfl) (by rfl) (by rfl) (by rfl) (by rfl)
      · have hnil : q.g.lens q.g.all = [] := List.isEmpty_iff.1 he
        simp only [he, if_true] at hP
        rw [hnil, List.length_nil] at hC
        have hle : ¬ (((f.lens f.all).length : Nat) : Int) < 0 := by omega
        have hc0 : ((0 : Nat) : Int) = 0 := rfl
        rw [hc0] at hC
        generalize (f.lens f.all).length = lf at *
        by_cases hj0 : j = 0
        · have ej : ((j : Int) == 0) = true := by rw [hj0]; rfl
          have d3 := d2 (by rw [hj0]; rfl)
          have hno2 : ¬ (((pop o : Nat) : Int) + 1 < ((pop o' : Nat) : Int)) := by omega
          simp only [loopIt, todoPast, todoAt, todoOf, firstReg, ↓reduceIte, Option.some.injEq, Nat.reduceEqDiff, reduceCtorEq, Try.f10]
          rw [execL_inLoop]
          simp (maxSteps := 1000000) (implicitDefEqProofs := false) (disch := first | rfl | omega | assumption) only [go_sem, g3, g7, g8, g12, g17, g18, g19, g20, g21, g22, g23, g24, g25, g27, g28, g29, g223, g224, g225, ltT, ltF, leT, leF, hk', s1, s2, sq1, sq2, t1, t2, hb1, hb2, hb3, hb4, hb5, h17, h18, h19, hQl, a1, a2, a3, a4, hqe, hqd, hF, hC, hP, hW, hii, hnn, hbb, hle, hno1, ej, hno2]
          exact key _ (by rfl) (by rfl) (by rfl) (by rfl) (by rfl) (by rfl) (by rfl) (by rfl) (by rfl) (by rfl) (by rfl) (by rfl) (by rfl) (by rfl) (by rfl) (by rfl) (by rfl) (by rfl) (by rfl)
        · have ej : ((j : Int) == 0) = false := by simp [hj0]
          simp only [loopIt, todoPast, todoAt, todoOf, firstReg, ↓reduceIte, Option.some.injEq, Nat.reduceEqDiff, reduceCtorEq, Try.f10]
          rw [execL_inLoop]
          simp (maxSteps := 1000000) (implicitDefEqProofs := false) (disch := first | rfl | omega | assumption) only [go_sem, g3, g7, g8, g12, g17, g18, g19, g20, g21, g22, g23, g24, g25, g27, g28, g29, g223, g224, g225, ltT, ltF, leT, leF, hk', s1, s2, sq1, sq2, t1, t2, hb1, hb2, hb3, hb4, hb5, h17, h18, h19, hQl, a1, a2, a3, a4, hqe, hqd, hF, hC, hP, hW, hii, hnn, hbb, hle, hno1, ej]
          exact key _ (by rfl) (by rfl) (by rfl) (by rfl) (by rfl) (by rfl) (by rfl) (by rfl) (by rfl) (by rfl) (by rfl) (by rfl) (by rfl) (by rfl) (by rfl) (by rfl) (by rfl) (by rfl) (by rfl)

end Go.Ab
/-
  FringeMore, walked: from the copies on.
-/
namespace Go.Ab
open Go.Proofs
set_option linter.unusedSimpArgs false
set_option linter.unusedVariables false
set_option maxRecDepth 100000
set_option maxHeartbeats 2000000

variable {H : Heap}


theorem okI (l : List Int) : elemsOk 1 false (l.map I) = true := by
  induction l with
  | nil => rfl
  | cons x r ih => simp only [List.map_cons, elemsOk, ih, Bool.and_true]; rfl

/-- The lengths that are told, or that there is none, and the parts in a colour. -/
theorem told_is {f : Frg} (ho : f.Ok) {c : Nat} (hc : c < f.ws.length) : ∃ (b : Bool) (e : Int) (ps : List (Int × Int)), ps = spans (f.lens f.all) ∧ (if (f.lens f.all).isEmpty then [AV.sl true [], I 10] else [.sl false ((spans (f.lens f.all)).map spA), I 0]) = [AV.sl b (ps.map spA), I e] ∧ (f.parts c).2 = e := by
  rw [parts_is ho hc]
  cases he : (f.lens f.all).isEmpty
  · exact ⟨false, 0, _, rfl, by simp, by simp⟩
  · have hnil : f.lens f.all = [] := List.isEmpty_iff.1 he
    rw [hnil]
    exact ⟨true, 10, [], rfl, rfl, rfl⟩

theorem mv_tail {f : Frg} {vw vr : AV} (ho : f.Ok) (hf : FrAt H f vw vr) (r0 : Rd) (c : Nat) (hc : c < f.ws.length) {q1 q2 q3 : Q} (h1 : QOk H f c true q1) (h2 : QOk H f c false q2) (h3 : QOk H f c false q3) :
    ∀ E : Env, E.get 3 = .ptr H.length 0 → E.get 7 = I f.ws.length → E.get 8 = I c → E.get 9 = .ptr (H.length + 2) 0 → E.get 10 = .ptr (H.length + 3) 0 → E.get 11 = .ptr (H.length + 4) 0 → E.get 12 = .ptr (H.length + 5) 0 → Option.map (finishC H.length) (execL cfg0 prog0 ⟨10, none, false, H.length⟩ (todoPast Try.f10 18) ⟨E, [], H ++ [.box (.agg [vw, I f.lo, I f.hi, vr]), .box (.agg [I r0.c, I r0.lo, I r0.hi]), .box (.agg [q1.w, I q1.g.lo, I q1.g.hi, q1.r]), .box (.agg [q2.w, I q2.g.lo, I q2.g.hi, q2.r]), .box (.agg [q3.w, I q3.g.lo, I q3.g.hi, q3.r]), .box (.agg [.gsl (H.length + 6) f.ws.length, I f.lo, I f.hi, .gsl (H.length + 7) f.rs.length]), .grow 1 (f.rev.ws.map I), .grow 3 (f.rev.rs.map Rd.av)], none⟩) = some ⟨.ret (.bool true), H, none⟩ := by
  intro E g3 g7 g8 g9 g10 g11 g12
  have hk' : True := trivial
  have s1 := hf.ws.scal
  have s2 := hf.rs.scal
  have u1 := h1.at_.ws.scal
  have u2 := h1.at_.rs.scal
  have u3 := h2.at_.ws.scal
  have u4 := h2.at_.rs.scal
  have u5 := h3.at_.ws.scal
  have u6 := h3.at_.rs.scal
  have t1 := hf.ws.ltn 6
  have t2 := hf.rs.ltn 6
  have t3 := h1.at_.ws.ltn 6
  have t4 := h1.at_.rs.ltn 6
  have t5 := h2.at_.ws.ltn 6
  have t6 := h2.at_.rs.ltn 6
  have t7 := h3.at_.ws.ltn 6
  have t8 := h3.at_.rs.ltn 6
  have p1 := fun A : Heap => hf.ws.sealn A 6
  have p2 := fun A : Heap => hf.rs.sealn A 6
  have p3 := fun A : Heap => h1.at_.ws.sealn A 6
  have p4 := fun A : Heap => h1.at_.rs.sealn A 6
  have p5 := fun A : Heap => h2.at_.ws.sealn A 6
  have p6 := fun A : Heap => h2.at_.rs.sealn A 6
  have p7 := fun A : Heap => h3.at_.ws.sealn A 6
  have p8 := fun A : Heap => h3.at_.rs.sealn A 6
  have l1 := hf.ws.len
  have l2 := hf.rs.len
  rw [List.length_map] at l1 l2
  have hltI := fun (N : Nat) (l : List Int) => ltI (N := N) l
  have hlt := fun (N : Nat) (l : List Rd) => ltL_map (f := Rd.av) (N := N) (fun _ => rfl) l
  have h4 := ho.many
  have h6 := ho.reads
  have hl : f.ws.length ≤ 1000 ∧ f.rs.length ≤ 1000 := by omega
  have r1 : (f.rev.ws.map I).length = f.ws.length := by rw [List.length_map, rev_wl]
  have r2 : (f.rev.rs.map Rd.av).length = f.rs.length := by rw [List.length_map, rev_rl]
  have r3 : (f.ws.map I).length = f.ws.length := List.length_map _
  have r4 : (f.rs.map Rd.av).length = f.rs.length := List.length_map _
  have r5 := fun G : Heap => (hf.ws.app G).elems
  have r6 := fun G : Heap => (hf.rs.app G).elems
  have hadd0 : addElem (H ++ [.box (.agg [vw, I f.lo, I f.hi, vr]), .box (.agg [I r0.c, I r0.lo, I r0.hi]), .box (.agg [q1.w, I q1.g.lo, I q1.g.hi, q1.r]), .box (.agg [q2.w, I q2.g.lo, I q2.g.hi, q2.r]), .box (.agg [q3.w, I q3.g.lo, I q3.g.hi, q3.r]), .box (.agg [.sl false (f.rev.ws.map I), I f.lo, I f.hi, .sl false (f.rev.rs.map Rd.av)])]) 1 false (.sl true []) (f.ws.map I) = some (.gsl (H.length + 6) f.ws.length, H ++ [.box (.agg [vw, I f.lo, I f.hi, vr]), .box (.agg [I r0.c, I r0.lo, I r0.hi]), .box (.agg [q1.w, I q1.g.lo, I q1.g.hi, q1.r]), .box (.agg [q2.w, I q2.g.lo, I q2.g.hi, q2.r]), .box (.agg [q3.w, I q3.g.lo, I q3.g.hi, q3.r]), .box (.agg [.sl false (f.rev.ws.map I), I f.lo, I f.hi, .sl false (f.rev.rs.map Rd.av)]), .grow 1 (f.ws.map I)]) := by
    rw [add_full rfl rfl (okI _) (ltI _) (by rw [r3]; simp; omega) rfl]
    simp
  have hadd1 : addElem (H ++ [.box (.agg [vw, I f.lo, I f.hi, vr]), .box (.agg [I r0.c, I r0.lo, I r0.hi]), .box (.agg [q1.w, I q1.g.lo, I q1.g.hi, q1.r]), .box (.agg [q2.w, I q2.g.lo, I q2.g.hi, q2.r]), .box (.agg [q3.w, I q3.g.lo, I q3.g.hi, q3.r]), .box (.agg [.sl false (f.rev.ws.map I), I f.lo, I f.hi, .sl false (f.rev.rs.map Rd.av)]), .grow 1 (f.ws.map I)]) 3 true (.sl true []) (f.rs.map Rd.av) = some (.gsl (H.length + 7) f.rs.length, H ++ [.box (.agg [vw, I f.lo, I f.hi, vr]), .box (.agg [I r0.c, I r0.lo, I r0.hi]), .box (.agg [q1.w, I q1.g.lo, I q1.g.hi, q1.r]), .box (.agg [q2.w, I q2.g.lo, I q2.g.hi, q2.r]), .box (.agg [q3.w, I q3.g.lo, I q3.g.hi, q3.r]), .box (.agg [.sl false (f.rev.ws.map I), I f.lo, I f.hi, .sl false (f.rev.rs.map Rd.av)]), .grow 1 (f.ws.map I), .grow 3 (f.rs.map Rd.av)]) := by
    rw [add_full rfl rfl (okRd _) (hlt _ _) (by rw [r4]; simp; omega) rfl]
    simp
  obtain ⟨bF, e20, ps, k1, k2, k3⟩ := told_is ho hc
  obtain ⟨o, w1, w2, w3, w4⟩ := wrong_is ho
  have hv : f.valid = true := f.valid_iff.2 ho
  have hLn := fr_Lengths (hf.app [.box (.agg [vw, I f.lo, I f.hi, vr]), .box (.agg [I r0.c, I r0.lo, I r0.hi]), .box (.agg [q1.w, I q1.g.lo, I q1.g.hi, q1.r]), .box (.agg [q2.w, I q2.g.lo, I q2.g.hi, q2.r]), .box (.agg [q3.w, I q3.g.lo, I q3.g.hi, q3.r]), .box (.agg [.sl false (f.rev.ws.map I), I f.lo, I f.hi, .sl false (f.rev.rs.map Rd.av)]), .grow 1 (f.ws.map I), .grow 3 (f.rs.map Rd.av)]) hl
  have hCn := fr_Count (hf.app [.box (.agg [vw, I f.lo, I f.hi, vr]), .box (.agg [I r0.c, I r0.lo, I r0.hi]), .box (.agg [q1.w, I q1.g.lo, I q1.g.hi, q1.r]), .box (.agg [q2.w, I q2.g.lo, I q2.g.hi, q2.r]), .box (.agg [q3.w, I q3.g.lo, I q3.g.hi, q3.r]), .box (.agg [.sl false (f.rev.ws.map I), I f.lo, I f.hi, .sl false (f.rev.rs.map Rd.av)]), .grow 1 (f.ws.map I), .grow 3 (f.rs.map Rd.av)]) hl
  have hPt := fr_Parts (hf.app [.box (.agg [vw, I f.lo, I f.hi, vr]), .box (.agg [I r0.c, I r0.lo, I r0.hi]), .box (.agg [q1.w, I q1.g.lo, I q1.g.hi, q1.r]), .box (.agg [q2.w, I q2.g.lo, I q2.g.hi, q2.r]), .box (.agg [q3.w, I q3.g.lo, I q3.g.hi, q3.r]), .box (.agg [.sl false (f.rev.ws.map I), I f.lo, I f.hi, .sl false (f.rev.rs.map Rd.av)]), .grow 1 (f.ws.map I), .grow 3 (f.rs.map Rd.av)]) hl c
  have hWr := fr_Wrong (hf.app [.box (.agg [vw, I f.lo, I f.hi, vr]), .box (.agg [I r0.c, I r0.lo, I r0.hi]), .box (.agg [q1.w, I q1.g.lo, I q1.g.hi, q1.r]), .box (.agg [q2.w, I q2.g.lo, I q2.g.hi, q2.r]), .box (.agg [q3.w, I q3.g.lo, I q3.g.hi, q3.r]), .box (.agg [.sl false (f.rev.ws.map I), I f.lo, I f.hi, .sl false (f.rev.rs.map Rd.av)]), .grow 1 (f.ws.map I), .grow 3 (f.rs.map Rd.av)]) hl
  have hPe := fr_Period (hf.app [.box (.agg [vw, I f.lo, I f.hi, vr]), .box (.agg [I r0.c, I r0.lo, I r0.hi]), .box (.agg [q1.w, I q1.g.lo, I q1.g.hi, q1.r]), .box (.agg [q2.w, I q2.g.lo, I q2.g.hi, q2.r]), .box (.agg [q3.w, I q3.g.lo, I q3.g.hi, q3.r]), .box (.agg [.sl false (f.rev.ws.map I), I f.lo, I f.hi, .sl false (f.rev.rs.map Rd.av)]), .grow 1 (f.ws.map I), .grow 3 (f.rs.map Rd.av)]) hl
  simp only [hv, if_true, k2] at hLn
  rw [count_is ho] at hCn
  rw [w1] at hWr
  have per2 : f.period.2 = 0 := by simp only [Frg.period, hv, if_true]
  rw [k3] at hPt
  rw [per2] at hPe
  -- the other one
  have hor := rev_ok ho
  have hcr : f.ws.length - 1 - c < f.rev.ws.length := by rw [rev_wl]; omega
  have hat : FrAt H f.rev (.sl false (f.rev.ws.map I)) (.sl false (f.rev.rs.map Rd.av)) := ⟨slI false _, ⟨rfl, fun x hx => by obtain ⟨i, _, rfl⟩ := List.mem_map.1 hx; rfl⟩⟩
  obtain ⟨bG, e40, ps', m1, m2, m3⟩ := told_is hor hcr
  obtain ⟨o', x1, x2, x3, x4⟩ := wrong_is hor
  have hlr : f.rev.ws.length ≤ 1000 ∧ f.rev.rs.length ≤ 1000 := by rw [rev_wl, rev_rl]; exact hl
  have hvr : f.rev.valid = true := f.rev.valid_iff.2 hor
  have hLn' := fr_Lengths (hat.app [.box (.agg [vw, I f.lo, I f.hi, vr]), .box (.agg [I r0.c, I r0.lo, I r0.hi]), .box (.agg [q1.w, I q1.g.lo, I q1.g.hi, q1.r]), .box (.agg [q2.w, I q2.g.lo, I q2.g.hi, q2.r]), .box (.agg [q3.w, I q3.g.lo, I q3.g.hi, q3.r]), .box (.agg [.sl false (f.rev.ws.map I), I f.lo, I f.hi, .sl false (f.rev.rs.map Rd.av)])]) hlr
  have hCn' := fr_Count (hat.app [.box (.agg [vw, I f.lo, I f.hi, vr]), .box (.agg [I r0.c, I r0.lo, I r0.hi]), .box (.agg [q1.w, I q1.g.lo, I q1.g.hi, q1.r]), .box (.agg [q2.w, I q2.g.lo, I q2.g.hi, q2.r]), .box (.agg [q3.w, I q3.g.lo, I q3.g.hi, q3.r]), .box (.agg [.sl false (f.rev.ws.map I), I f.lo, I f.hi, .sl false (f.rev.rs.map Rd.av)])]) hlr
  have hPt' := fr_Parts (hat.app [.box (.agg [vw, I f.lo, I f.hi, vr]), .box (.agg [I r0.c, I r0.lo, I r0.hi]), .box (.agg [q1.w, I q1.g.lo, I q1.g.hi, q1.r]), .box (.agg [q2.w, I q2.g.lo, I q2.g.hi, q2.r]), .box (.agg [q3.w, I q3.g.lo, I q3.g.hi, q3.r]), .box (.agg [.sl false (f.rev.ws.map I), I f.lo, I f.hi, .sl false (f.rev.rs.map Rd.av)])]) hlr ((f.ws.length - 1 - c : Nat) : Int)
  have hWr' := fr_Wrong (hat.app [.box (.agg [vw, I f.lo, I f.hi, vr]), .box (.agg [I r0.c, I r0.lo, I r0.hi]), .box (.agg [q1.w, I q1.g.lo, I q1.g.hi, q1.r]), .box (.agg [q2.w, I q2.g.lo, I q2.g.hi, q2.r]), .box (.agg [q3.w, I q3.g.lo, I q3.g.hi, q3.r]), .box (.agg [.sl false (f.rev.ws.map I), I f.lo, I f.hi, .sl false (f.rev.rs.map Rd.av)])]) hlr
  have hPe' := fr_Period (hat.app [.box (.agg [vw, I f.lo, I f.hi, vr]), .box (.agg [I r0.c, I r0.lo, I r0.hi]), .box (.agg [q1.w, I q1.g.lo, I q1.g.hi, q1.r]), .box (.agg [q2.w, I q2.g.lo, I q2.g.hi, q2.r]), .box (.agg [q3.w, I q3.g.lo, I q3.g.hi, q3.r]), .box (.agg [.sl false (f.rev.ws.map I), I f.lo, I f.hi, .sl false (f.rev.rs.map Rd.av)])]) hlr
  simp only [hvr, if_true, m2] at hLn'
  rw [rev_count ho, count_is ho] at hCn'
  rw [x1] at hWr'
  rw [rev_parts ho hc] at hPt' m3
  rw [k3] at hPt' m3
  rw [rev_period ho, per2] at hPe'
  rw [rev_wrong ho w1 x1] at hWr'
  have eps : ps' = ps := by rw [m1, k1, rev_all ho]
  subst eps
  subst m3
  have elo : f.rev.lo = f.lo := rfl
  have ehi : f.rev.hi = f.hi := rfl
  simp only [elo, ehi] at hLn' hCn' hPt' hWr' hPe'
  have ec : (f.ws.length : Int) - 1 - (c : Int) = ((f.ws.length - 1 - c : Nat) : Int) := by omega
  have hpl : ps'.length ≤ 1000000 := by rw [k1]; have := (spans_bd ho f.all).2; omega
  have hSp := rf_Spans (H := H ++ [.box (.agg [vw, I f.lo, I f.hi, vr]), .box (.agg [I r0.c, I r0.lo, I r0.hi]), .box (.agg [q1.w, I q1.g.lo, I q1.g.hi, q1.r]), .box (.agg [q2.w, I q2.g.lo, I q2.g.hi, q2.r]), .box (.agg [q3.w, I q3.g.lo, I q3.g.hi, q3.r]), .box (.agg [.sl false (f.rev.ws.map I), I f.lo, I f.hi, .sl false (f.rev.rs.map Rd.av)])]) (slS bG ps') (slS bF ps') ⟨hpl, hpl⟩
  have hIn := rf_Ints (H := H ++ [.box (.agg [vw, I f.lo, I f.hi, vr]), .box (.agg [I r0.c, I r0.lo, I r0.hi]), .box (.agg [q1.w, I q1.g.lo, I q1.g.hi, q1.r]), .box (.agg [q2.w, I q2.g.lo, I q2.g.hi, q2.r]), .box (.agg [q3.w, I q3.g.lo, I q3.g.hi, q3.r]), .box (.agg [.sl false (f.rev.ws.map I), I f.lo, I f.hi, .sl false (f.rev.rs.map Rd.av)])]) (slI false f.ws) (hf.ws.app _) (by omega)
  have hde1 : decide (ps' = ps') = true := by simp
  have hde2 : decide (f.ws = f.ws) = true := by simp
  rw [hde1] at hSp
  rw [hde2] at hIn
  have hnn : ∀ x : Int, (x != x) = false := fun x => by simp
  have b1l : AO.lt (H.length + 6) (.box (.agg [I r0.c, I r0.lo, I r0.hi])) = true := rfl
  have b2l : AO.lt (H.length + 6) (.box (.agg [q1.w, I q1.g.lo, I q1.g.hi, q1.r])) = true := by simp only [AO.lt, AV.lt, ltL, t3, t4, Bool.and_self]
  have b3l : AO.lt (H.length + 6) (.box (.agg [q2.w, I q2.g.lo, I q2.g.hi, q2.r])) = true := by simp only [AO.lt, AV.lt, ltL, t5, t6, Bool.and_self]
  have b4l : AO.lt (H.length + 6) (.box (.agg [q3.w, I q3.g.lo, I q3.g.hi, q3.r])) = true := by simp only [AO.lt, AV.lt, ltL, t7, t8, Bool.and_self]
  have b5l : AO.lt (H.length + 6) (.box (.agg [.sl false (f.rev.ws.map I), I f.lo, I f.hi, .sl false (f.rev.rs.map Rd.av)])) = true := by simp only [AO.lt, AV.lt, ltL, hltI, hlt, Bool.and_self]
  have q17 : AV.lt (H.length + 6) (.sl false (f.ws.map I)) = true := by simp only [AV.lt, hltI]
  have q18 : AV.lt (H.length + 6) (.sl false (f.rs.map Rd.av)) = true := by simp only [AV.lt, hlt]
  have hlp := fun N => spLt ps' N
  have q19 : AV.lt (H.length + 6) (.sl bF (ps'.map spA)) = true := by simp only [AV.lt, hlp]
  have gq := mv_q ho hf b1l b2l b3l b4l b5l c hc _ _ _ q17 q18 q19 (f.parts c).2 f.period.1 o w1 [q1, q2, q3] (fun i hi => by
    have : i = 0 ∨ i = 1 ∨ i = 2 := by simp only [List.length_cons, List.length_nil] at hi; omega
    rcases this with rfl | rfl | rfl
    · exact h1
    · exact h2
    · exact h3) (by simp)
  have gc := mv_cmp hf (b1 := .box (.agg [I r0.c, I r0.lo, I r0.hi])) (b2 := .box (.agg [q1.w, I q1.g.lo, I q1.g.hi, q1.r])) (b3 := .box (.agg [q2.w, I q2.g.lo, I q2.g.hi, q2.r])) (b4 := .box (.agg [q3.w, I q3.g.lo, I q3.g.hi, q3.r])) (b5 := .box (.agg [.sl false (f.rev.ws.map I), I f.lo, I f.hi, .sl false (f.rev.rs.map Rd.av)])) (by omega) f.rs.length 0 (by omega)
  subst k3
  generalize (f.parts c).2 = e20 at *
  generalize f.period.1 = per at *
  simp only [loopIt, todoPast, todoAt, todoOf, firstReg, ↓reduceIte, Option.some.injEq, Nat.reduceEqDiff, reduceCtorEq, Try.f10]
  simp (maxSteps := 1000000) (implicitDefEqProofs := false) (disch := first | rfl | omega | assumption) only [go_sem, g3, g7, g8, g9, g10, g11, g12, ltT, ltF, leT, leF, hk', s1, s2, u1, u2, u3, u4, u5, u6, r1, r2, r3, r4, r5, r6, t1, t2, t3, t4, t5, t6, t7, t8, hltI, hlt, p1, p2, p3, p4, p5, p6, p7, p8, h1.lw, h1.lr, h2.lw, h2.lr, h3.lw, h3.lr]
  rw [chkK_of]; rotate_left; kernel_rfl
  simp (maxSteps := 1000000) (implicitDefEqProofs := false) (disch := first | rfl | omega | assumption) only [go_sem, g3, g7, g8, g9, g10, g11, g12, ltT, ltF, leT, leF, hk', s1, s2, u1, u2, u3, u4, u5, u6, r1, r2, r3, r4, r5, r6, t1, t2, t3, t4, t5, t6, t7, t8, hltI, hlt, p1, p2, p3, p4, p5, p6, p7, p8, h1.lw, h1.lr, h2.lw, h2.lr, h3.lw, h3.lr, hadd0, hadd1, hLn, hCn, hPt, hWr, hPe, hnn, hlp]
  refine gq _ _ (fun E g3 g7 g8 g12 g17 g18 g19 g20 g21 g22 g23 g24 g25 g27 g28 g29 => ?_) 3 0 (by rfl) [] _ (by rfl) (by rfl) (by rfl) (by rfl) (by rfl) (by rfl) (by rfl) (by rfl) (by rfl) (by rfl) (by rfl) (by rfl) (by rfl) (by rfl) (by rfl) (by rfl) (by rfl) (by rfl) (by rfl)
  simp (maxSteps := 1000000) (implicitDefEqProofs := false) (disch := first | rfl | omega | assumption) only [go_sem, g3, g7, g8, g12, g17, g18, g19, g20, g21, g22, g23, g24, g25, g27, g28, g29, ltT, ltF, leT, leF, hk', s1, s2, u1, u2, u3, u4, u5, u6, r1, r2, r3, r4, r5, r6, t1, t2, t3, t4, t5, t6, t7, t8, hltI, hlt, p1, p2, p3, p4, p5, p6, p7, p8, h1.lw, h1.lr, h2.lw, h2.lr, h3.lw, h3.lr, hLn', hCn', hPt', hWr', hPe', hnn, hSp, hIn, ec]
  exact gc _ (by exact g3) (by exact g18) (by rfl) (by rfl)

end Go.Ab
/-
  FringeMore.
-/
namespace Go.Ab
open Go.Proofs
set_option linter.unusedSimpArgs false
set_option linter.unusedVariables false
set_option maxRecDepth 100000
set_option maxHeartbeats 2000000

variable {H : Heap}


theorem law_FringeMore {f : Frg} {vw vr : AV} (hf : FrAt H f vw vr) (lw : vw.lt 0 = true) (lr : vr.lt 0 = true) (r : Rd) (n1 : Int) (w1 : 0 ≤ n1 ∧ n1 ≤ 255) :
    callFL cfg0 prog0 false 10 [.agg [vw, I f.lo, I f.hi, vr], .agg [I r.c, I r.lo, I r.hi], .int .u8 n1] H none = some ⟨.ret (.bool true), H, none⟩ := by
  have s1 := hf.ws.scal
  have s2 := hf.rs.scal
  have l1 := hf.ws.len
  have l2 := hf.rs.len
  rw [List.length_map] at l1 l2
  have hk' : True := trivial
  have hL := law_long (hf.app [.box (.agg [vw, I f.lo, I f.hi, vr]), .box (.agg [I r.c, I r.lo, I r.hi])])
  have hA := fun G : Heap => law_alive G
  by_cases hlg : 40 < f.ws.length ∨ 40 < f.rs.length
  · rw [decide_eq_true hlg] at hL
    refine (callFL_eq fn10 rfl (by simp [Try.f10])).trans ?_
    simp (maxSteps := 1000000) (implicitDefEqProofs := false) (disch := first | rfl | omega | assumption) only [go_sem, ltT, ltF, leT, leF, s1, s2, hL, hA]
    done
  rw [decide_eq_false hlg] at hL
  have hl : f.ws.length ≤ 1000 ∧ f.rs.length ≤ 1000 := by omega
  have hF := rf_Fringe (hf.app [.box (.agg [vw, I f.lo, I f.hi, vr]), .box (.agg [I r.c, I r.lo, I r.hi])]) hl
  cases hv : f.valid
  · simp only [hv] at hF
    refine (callFL_eq fn10 rfl (by simp [Try.f10])).trans ?_
    simp (maxSteps := 1000000) (implicitDefEqProofs := false) (disch := first | rfl | omega | assumption) only [go_sem, ltT, ltF, leT, leF, s1, s2, hL, hA, hF]
    done
  have ho := f.valid_iff.1 hv
  rw [hv] at hF
  have hm4 := ho.many
  have h6 := ho.reads
  have hfl := ho.len
  have z1 : ¬ (f.ws.length : Int) = 0 := by omega
  obtain ⟨c, hc⟩ : ∃ c : Nat, n1 % (f.ws.length : Int) = c := ⟨(n1 % (f.ws.length : Int)).toNat, by have := Int.emod_nonneg n1 z1; omega⟩
  have hc2 : c < f.ws.length := by have := Int.emod_lt_of_pos n1 (show (0 : Int) < f.ws.length by omega); omega
  have e2 : n1.tmod (f.ws.length : Int) = c := by rw [Int.tmod_eq_emod_of_nonneg w1.1]; exact hc
  obtain ⟨d, hd⟩ : ∃ d, n1 % 5 = d := ⟨_, rfl⟩
  have hdb : 0 ≤ d ∧ d < 5 := by omega
  have e5 : n1.tmod 5 = d := by rw [Int.tmod_eq_emod_of_nonneg w1.1]; exact hd
  have hcut : (if f.lo + 1 + d < f.hi then f.lo + 1 + d else f.hi) = (f.cut d).lo := rfl
  have hW := fun G : Heap => law_with (hf.app G) hl.2 r
  have hlr := fun (N : Nat) (l : List Rd) => ltL_map (f := Rd.av) (N := N) (fun _ => rfl) l
  have hE := fun G : Heap => (hf.rs.app G).elems
  have lm : (f.rs.map Rd.av).length = f.rs.length := List.length_map _
  have hadd0 : addElem (H ++ [.box (.agg [vw, I f.lo, I f.hi, vr]), .box (.agg [I r.c, I r.lo, I r.hi]), .box (.agg [vw, I f.lo, I f.hi, .sl false ((f.rs ++ [r]).map Rd.av)]), .box (.agg [vw, I f.lo, I f.hi, vr]), .box (.agg [vw, I f.lo, I f.hi, vr]), .box (.agg [vw, I f.lo, I f.hi, vr])]) 3 true (.sl true []) (f.rs.map Rd.av) = some (.gsl (H.length + 6) f.rs.length, H ++ [.box (.agg [vw, I f.lo, I f.hi, vr]), .box (.agg [I r.c, I r.lo, I r.hi]), .box (.agg [vw, I f.lo, I f.hi, .sl false ((f.rs ++ [r]).map Rd.av)]), .box (.agg [vw, I f.lo, I f.hi, vr]), .box (.agg [vw, I f.lo, I f.hi, vr]), .box (.agg [vw, I f.lo, I f.hi, vr]), .grow 3 (f.rs.map Rd.av)]) := by
    rw [add_full rfl rfl (okRd _) (hlr _ _) (by rw [lm]; simp; omega) rfl]
    simp
  have t1 := hf.ws.ltn 6
  have t2 := hf.rs.ltn 6
  have p1 := fun A : Heap => hf.ws.sealn A 6
  have p2 := fun A : Heap => hf.rs.sealn A 6
  have ltX : ltL 0 ((f.rs ++ [r]).map Rd.av) = true := hlr _ _
  have hat : ∀ l : List Rd, SlOk H 3 (.sl false (l.map Rd.av)) (l.map Rd.av) := fun l => ⟨rfl, fun x hx => by obtain ⟨i, _, rfl⟩ := List.mem_map.1 hx; rfl⟩
  have ltS : ∀ l : List Rd, AV.lt 0 (.sl false (l.map Rd.av)) = true := fun l => by simp only [AV.lt, hlr]
  have Q1 : QOk H f c true ⟨f.more r, vw, .sl false ((f.more r).rs.map Rd.av)⟩ := ⟨⟨hf.ws, hat _⟩, by rw [more_len]; exact ⟨hl.1, by omega⟩, rfl, lw, ltS _, fun hg => more_fine ho r hg c⟩
  have Q3 : QOk H f c false ⟨f.cut d, vw, vr⟩ := ⟨⟨hf.ws, hf.rs⟩, hl, rfl, lw, lr, fun hg => cut_fine ho hdb.1 hg c⟩
  have Q2 : ∀ (k : Nat) (ry : List Rd), (f.nar k).rs = ry → QOk H f c false ⟨f.nar k, vw, .sl false (ry.map Rd.av)⟩ := fun k ry hry => ⟨⟨hf.ws, by rw [← hry]; exact hat _⟩, ⟨hl.1, by simp only [Frg.nar, List.length_set]; exact hl.2⟩, rfl, lw, ltS _, fun hg => nar_fine ho k hg c⟩
  by_cases hr0 : f.rs.length = 0
  · have hnil : f.rs = [] := List.length_eq_zero_iff.1 hr0
    obtain ⟨k, hk⟩ : ∃ k : Nat, k = 0 := ⟨0, rfl⟩
    obtain ⟨ry, hry⟩ : ∃ ry, ry = f.rs := ⟨_, rfl⟩
    have hny : (f.nar k).rs = ry := by simp only [Frg.nar, hry, hnil, List.set_nil]
    have gt := mv_tail ho hf r c hc2 Q1 (Q2 k ry hny) Q3
    have B1 : AO.lt (H.length + 8) (.box (.agg [I r.c, I r.lo, I r.hi])) = true := rfl
    have gw := mv_ws ho hf (b1 := .box (.agg [I r.c, I r.lo, I r.hi])) (b2 := .box (.agg [vw, I f.lo, I f.hi, .sl false ((f.rs ++ [r]).map Rd.av)])) (b3 := .box (.agg [vw, I f.lo, I f.hi, .sl false (ry.map Rd.av)])) (b4 := .box (.agg [vw, I (f.cut d).lo, I f.hi, vr])) c []
    have gr := mv_rs ho hf (b1 := .box (.agg [I r.c, I r.lo, I r.hi])) (b2 := .box (.agg [vw, I f.lo, I f.hi, .sl false ((f.rs ++ [r]).map Rd.av)])) (b3 := .box (.agg [vw, I f.lo, I f.hi, .sl false (ry.map Rd.av)])) (b4 := .box (.agg [vw, I (f.cut d).lo, I f.hi, vr])) B1 (by simp only [AO.lt, AV.lt, ltL, hf.ws.ltn, hlr, Bool.and_self]) (by simp only [AO.lt, AV.lt, ltL, hf.ws.ltn, hlr, Bool.and_self]) (by simp only [AO.lt, AV.lt, ltL, hf.ws.ltn, hf.rs.ltn, Bool.and_self]) c
    have z0 : ¬ (0 : Int) < ((f.rs.length : Nat) : Int) := by omega
    subst hry
    refine (callFL_eq fn10 rfl (by simp [Try.f10])).trans ?_
    simp (maxSteps := 1000000) (implicitDefEqProofs := false) (disch := first | rfl | omega | assumption) only [go_sem, ltT, ltF, leT, leF, s1, s2, l1, l2, hL, hF, z1, e2]
    rw [chkK_of]; rotate_left; kernel_rfl
    simp (maxSteps := 1000000) (implicitDefEqProofs := false) (disch := first | rfl | omega | assumption) only [go_sem, ltT, ltF, leT, leF, s1, s2, l1, hW, hE, hadd0, z0, t1, t2, p1, p2, hlr, ltX, e5, hcut]
    refine gw _ _ (fun E g3 g7 g8 g9 g10 g11 g12 => ?_) f.ws.length 0 (by omega) _ (by rfl) (by rfl) (by rfl) (by rfl) (by rfl) (by rfl) (by rfl) (by rfl) (by rfl)
    simp (maxSteps := 1000000) (implicitDefEqProofs := false) (disch := first | rfl | omega | assumption) only [go_sem, g3, g7, g8, g9, g10, g11, g12, ltT, ltF, leT, leF, hk', s1, s2, l2]
    refine gr (todoPast Try.f10 18) _ gt f.rs.length 0 (by omega) [] _ (by exact g3) (by exact g7) (by exact g8) (by exact g9) (by exact g10) (by exact g11) (by exact g12) (by rfl) (by rfl)
  · have hr1 : ¬ (f.rs.length : Int) = 0 := by omega
    have z0 : (0 : Int) < ((f.rs.length : Nat) : Int) := by omega
    obtain ⟨k, hk⟩ : ∃ k : Nat, n1 % (f.rs.length : Int) = k := ⟨(n1 % (f.rs.length : Int)).toNat, by have := Int.emod_nonneg n1 hr1; omega⟩
    have hk2 : k < f.rs.length := by have := Int.emod_lt_of_pos n1 z0; omega
    have e3 : n1.tmod (f.rs.length : Int) = k := by rw [Int.tmod_eq_emod_of_nonneg w1.1]; exact hk
    obtain ⟨x, hx⟩ : ∃ x, f.r k = x := ⟨_, rfl⟩
    have hxo := ho.rd k hk2
    rw [hx] at hxo
    obtain ⟨ry, hry⟩ : ∃ ry, ry = f.rs.set k ⟨x.c, x.lo, if x.lo < x.hi - 1 then x.hi - 1 else x.lo⟩ := ⟨_, rfl⟩
    have hny : (f.nar k).rs = ry := by rw [hry]; simp only [Frg.nar, hx, narD]
    have gt := mv_tail ho hf r c hc2 Q1 (Q2 k ry hny) Q3
    have B1 : AO.lt (H.length + 8) (.box (.agg [I r.c, I r.lo, I r.hi])) = true := rfl
    have gw := mv_ws ho hf (b1 := .box (.agg [I r.c, I r.lo, I r.hi])) (b2 := .box (.agg [vw, I f.lo, I f.hi, .sl false ((f.rs ++ [r]).map Rd.av)])) (b3 := .box (.agg [vw, I f.lo, I f.hi, .sl false (ry.map Rd.av)])) (b4 := .box (.agg [vw, I (f.cut d).lo, I f.hi, vr])) c []
    have gr := mv_rs ho hf (b1 := .box (.agg [I r.c, I r.lo, I r.hi])) (b2 := .box (.agg [vw, I f.lo, I f.hi, .sl false ((f.rs ++ [r]).map Rd.av)])) (b3 := .box (.agg [vw, I f.lo, I f.hi, .sl false (ry.map Rd.av)])) (b4 := .box (.agg [vw, I (f.cut d).lo, I f.hi, vr])) B1 (by simp only [AO.lt, AV.lt, ltL, hf.ws.ltn, hlr, Bool.and_self]) (by simp only [AO.lt, AV.lt, ltL, hf.ws.ltn, hlr, Bool.and_self]) (by simp only [AO.lt, AV.lt, ltL, hf.ws.ltn, hf.rs.ltn, Bool.and_self]) c
    have hgk : (f.rs.map Rd.av)[k]? = some x.av := by
      rw [← hx]
      simp [Frg.r, hk2]
    have hav : x.av.cells = [I x.c, I x.lo, I x.hi] := rfl
    have hia : ∀ (te : Ty), te.size = 3 → idxAddr (H ++ [.box (.agg [vw, I f.lo, I f.hi, vr]), .box (.agg [I r.c, I r.lo, I r.hi]), .box (.agg [vw, I f.lo, I f.hi, .sl false ((f.rs ++ [r]).map Rd.av)]), .box (.agg [vw, I f.lo, I f.hi, .gsl (H.length + 6) f.rs.length]), .box (.agg [vw, I f.lo, I f.hi, vr]), .box (.agg [vw, I f.lo, I f.hi, vr]), .grow 3 (f.rs.map Rd.av)]) te (.gsl (H.length + 6) f.rs.length) (k : Int) = some (.eptr (H.length + 6) f.rs.length k 0) := by
      intro te ht
      simp only [idxAddr, get_at', List.getElem?_cons_succ, List.getElem?_cons_zero, lm, ht]
      simp [hk2]
    have hld : ∀ (ty : Ty) (off : Nat), evLoad (H ++ [.box (.agg [vw, I f.lo, I f.hi, vr]), .box (.agg [I r.c, I r.lo, I r.hi]), .box (.agg [vw, I f.lo, I f.hi, .sl false ((f.rs ++ [r]).map Rd.av)]), .box (.agg [vw, I f.lo, I f.hi, .gsl (H.length + 6) f.rs.length]), .box (.agg [vw, I f.lo, I f.hi, vr]), .box (.agg [vw, I f.lo, I f.hi, vr]), .grow 3 (f.rs.map Rd.av)]) ty (.eptr (H.length + 6) f.rs.length k off) = readPart x.av.cells off ty := by
      intro ty off
      simp only [evLoad_eptr, get_at', List.getElem?_cons_succ, List.getElem?_cons_zero, lm, hgk]
      simp
    have hst : ∀ (b : Nat) (z : Option Value) (v : Int), evStore b (H ++ [.box (.agg [vw, I f.lo, I f.hi, vr]), .box (.agg [I r.c, I r.lo, I r.hi]), .box (.agg [vw, I f.lo, I f.hi, .sl false ((f.rs ++ [r]).map Rd.av)]), .box (.agg [vw, I f.lo, I f.hi, .gsl (H.length + 6) f.rs.length]), .box (.agg [vw, I f.lo, I f.hi, vr]), .box (.agg [vw, I f.lo, I f.hi, vr]), .grow 3 (f.rs.map Rd.av)]) ⟨.int .i64, 1, 8, z⟩ (.eptr (H.length + 6) f.rs.length k 2) (I v) = some (H ++ [.box (.agg [vw, I f.lo, I f.hi, vr]), .box (.agg [I r.c, I r.lo, I r.hi]), .box (.agg [vw, I f.lo, I f.hi, .sl false ((f.rs ++ [r]).map Rd.av)]), .box (.agg [vw, I f.lo, I f.hi, .gsl (H.length + 6) f.rs.length]), .box (.agg [vw, I f.lo, I f.hi, vr]), .box (.agg [vw, I f.lo, I f.hi, vr]), .grow 3 ((f.rs.set k ⟨x.c, x.lo, v⟩).map Rd.av)]) := by
      intro b z v
      simp only [evStore_eptr, get_at', List.getElem?_cons_succ, List.getElem?_cons_zero, lm, hgk]
      simp [AV.lt, writePart, allScalar, AV.cells, AV.scalar, splice, AV.withCells, Rd.av, List.map_set, set_at']
    have lmy : (ry.map Rd.av).length = f.rs.length := by rw [hry]; simp
    rw [hry] at gw gr gt lmy
    refine (callFL_eq fn10 rfl (by simp [Try.f10])).trans ?_
    simp (maxSteps := 1000000) (implicitDefEqProofs := false) (disch := first | rfl | omega | assumption) only [go_sem, ltT, ltF, leT, leF, s1, s2, l1, l2, hL, hF, z1, e2]
    rw [chkK_of]; rotate_left; kernel_rfl
    simp (maxSteps := 1000000) (implicitDefEqProofs := false) (disch := first | rfl | omega | assumption) only [go_sem, ltT, ltF, leT, leF, s1, s2, l1, hW, hE, hadd0, z0]
    rw [chkK_of]; rotate_left; kernel_rfl
    simp (maxSteps := 1000000) (implicitDefEqProofs := false) (disch := first | rfl | omega | assumption) only [go_sem, ltT, ltF, leT, leF, s1, s2, hr1, e3, hia, hld, hav]
    rw [chkK_of]; rotate_left; kernel_rfl
    simp (maxSteps := 1000000) (implicitDefEqProofs := false) (disch := first | rfl | omega | assumption) only [go_sem, ltT, ltF, leT, leF, s1, s2, hia, hld, hav, hst, t1, t2, p1, p2, hlr, ltX, lmy, l1, e5, hcut]
    refine gw _ _ (fun E g3 g7 g8 g9 g10 g11 g12 => ?_) f.ws.length 0 (by omega) _ (by rfl) (by rfl) (by rfl) (by rfl) (by rfl) (by rfl) (by rfl) (by rfl) (by rfl)
    simp (maxSteps := 1000000) (implicitDefEqProofs := false) (disch := first | rfl | omega | assumption) only [go_sem, g3, g7, g8, g9, g10, g11, g12, ltT, ltF, leT, leF, hk', s1, s2, l2]
    refine gr (todoPast Try.f10 18) _ gt f.rs.length 0 (by omega) [] _ (by exact g3) (by exact g7) (by exact g8) (by exact g9) (by exact g10) (by exact g11) (by exact g12) (by rfl) (by rfl)

end Go.Ab
