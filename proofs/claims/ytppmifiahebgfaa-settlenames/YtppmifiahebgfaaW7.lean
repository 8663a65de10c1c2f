/-
  The layer settle: the rest of its exported functions, walked.
-/
import Derived.Test.YtppmifiahebgfaaW6
namespace Go.Ab
open Go.Proofs
set_option linter.unusedSimpArgs false
set_option linter.unusedVariables false

variable {H : Heap} {L M : Nat} {vb vt : AV} {s : Stl} {es : List (AV × AV)}

theorem loS_bd {f : Nat → Int} {B : Int} (hB : 0 ≤ B) (h : ∀ j, -B ≤ f j ∧ f j ≤ B) : ∀ n, -B ≤ loS f n ∧ loS f n ≤ B
  | 0 => by simp only [loS]; omega
  | n + 1 => by
    simp only [loS]
    have := h n; have := h 0; have := loS_bd hB h n
    split
    · omega
    · split <;> omega

theorem hiS_bd {f : Nat → Int} {B : Int} (hB : 0 ≤ B) (h : ∀ j, -B ≤ f j ∧ f j ≤ B) : ∀ n, -B ≤ hiS f n ∧ hiS f n ≤ B
  | 0 => by simp only [hiS]; omega
  | n + 1 => by
    simp only [hiS]
    have := h n; have := h 0; have := hiS_bd hB h n
    split
    · omega
    · split <;> omega

theorem warm_bd (hs : s.Wf) {blk : Int} {b : Blk} (hb : s.bs[blk.toNat]? = some b) {m : Nat} (hm : m ≤ 60) : (-43000 ≤ warmLo s blk b m ∧ warmLo s blk b m ≤ 43000) ∧ (-43000 ≤ warmHi s blk b m ∧ warmHi s blk b m ≤ 43000) := by
  have hbo := hs.bs b (List.mem_of_getElem? hb)
  have key : ∀ e : Int, ∀ j : Nat, -43000 ≤ exc s.ts blk (b.x e) (b.s0 + j) e m ∧ exc s.ts blk (b.x e) (b.s0 + j) e m ≤ 43000 := by
    intro e j
    have hbb : -100 ≤ b.x e ∧ b.x e ≤ 100 := by have := hbo.a1; have := hbo.a2; have := hbo.a3; simp only [Blk.x]; constructor <;> split <;> omega
    have := exc_bd (blk := blk) (e := e) hs.ts hs.len hbb (show 1 ≤ b.s0 + (j : Int) by have := hbo.a4; omega) m
    omega
  exact ⟨loS_bd (by omega) (key 0) _, hiS_bd (by omega) (key 1) _⟩

def mn (a b : Int) : Int := if b < a then b else a
def mx (a b : Int) : Int := if a < b then b else a

/-- What Longer tells. -/
def Stl.longer (s : Stl) (n m : Int) : Int × Int × Int :=
  if s.valid then (if s.inB n && s.inM m then
    (mn (downZ (warmLo s n (s.blk n) m.toNat * (s.blk n).g0)) (downZ (warmLo s n (s.blk n) m.toNat * (s.blk n).g1)),
     mx (downZ (warmHi s n (s.blk n) m.toNat * (s.blk n).g0)) (downZ (warmHi s n (s.blk n) m.toNat * (s.blk n).g1)), 0) else (0, 0, 2)) else (0, 0, 1)

theorem mul_bd {x g : Int} (hx : -43000 ≤ x ∧ x ≤ 43000) (hg : 0 ≤ g ∧ g ≤ 20) : -1000000 ≤ x * g ∧ x * g ≤ 1000000 := by
  have h1 : x * g ≤ 43000 * g := Int.mul_le_mul_of_nonneg_right hx.2 hg.1
  have h2 : -43000 * g ≤ x * g := Int.mul_le_mul_of_nonneg_right hx.1 hg.1
  omega

theorem f16 (s : Stl) (hvb : SlOk H 6 vb (s.bs.map Blk.av)) (hvt : SlOk H 4 vt (s.ts.map Tch.av)) (hl : s.bs.length ≤ 1000) (hl2 : s.ts.length ≤ 1000) (n m : Int) :
    callFL cfg0 prog0 false 16 [.agg [vb, I s.near, I s.last, vt], I n, I m] H none = some ⟨.ret (.tup [.agg [I (s.longer n m).1, I (s.longer n m).2.1], I (s.longer n m).2.2]), H, none⟩ := by
  have sb := hvb.scal
  have st := hvt.scal
  have hp := pl4_ok (H ++ [.box (.agg [vb, I s.near, I s.last, vt]), .box (I n), .box (I m), .box (.agg [I 0, I 0]), .box (I 0)]) vb vt s (hvb.app _) (hvt.app _)
  have h42 := f42 (H ++ [.box (.agg [vb, I s.near, I s.last, vt]), .box (I n), .box (I m), .box (.agg [I 0, I 0]), .box (I 0)]) vb vt s 53 [.ptr (H.length + 1) 0, .ptr (H.length + 2) 0] (s.inB n && s.inM m) (hvb.app _) (hvt.app _) hl hl2
    (fun N => by simp [ltL, AV.lt]; omega) (f53 hp hl _ _ n m (by simp [pl4, List.append_assoc, List.cons_append, List.nil_append, List.append_nil, List.length_append, List.length_cons, List.length_nil, Nat.zero_add, Nat.add_zero, Nat.add_assoc, Nat.reduceAdd, set_at, set_at', List.set_cons_zero, List.set_cons_succ, get_at']) (by simp [pl4, List.append_assoc, List.cons_append, List.nil_append, List.append_nil, List.length_append, List.length_cons, List.length_nil, Nat.zero_add, Nat.add_zero, Nat.add_assoc, Nat.reduceAdd, set_at, set_at', List.set_cons_zero, List.set_cons_succ, get_at']))
  simp only [pl4, List.append_assoc, List.cons_append, List.nil_append, List.append_nil, List.length_append, List.length_cons, List.length_nil, Nat.zero_add, Nat.add_zero, Nat.add_assoc, Nat.reduceAdd, set_at, set_at', List.set_cons_zero, List.set_cons_succ] at h42
  have h52 := fun e => f52s (H.length + 4) e 0 (H ++ [.box (.agg [vb, I s.near, I s.last, vt]), .box (I n), .box (I m), .box (.agg [I 0, I 0]), .box (I 0)]) (by simp [get_at'])
  refine (callFL_eq fn16 rfl (by simp [Try.f16])).trans ?_
  simp only [Stl.longer]
  cases hv : s.valid with
  | false =>
    simp only [hv, Bool.false_eq_true, ↓reduceIte] at h42
    simp only [go_sem, ↓reduceIte, Nat.reduceEqDiff, Nat.reduceAdd, Nat.reduceLeDiff, Nat.reduceBEq, Nat.reduceMul, Nat.reduceLT, Int.reduceLT, Int.reduceLE, Int.reduceToNat, Int.reduceNeg, Int.reduceEq, Int.reduceMul, reduceCtorEq, fn16, res16, gc16, grow16, ty3, ty22, ty23, ty25, ty29, ty30, ty56, ty63, ty69, ty72, ty75, ty80, ty82, ty83, ty114, plan16_3, plan16_4, plan16_5, sb, st, h42, h52]
  | true =>
    cases hc : (s.inB n && s.inM m) with
    | false =>
      simp only [hv, hc, Bool.false_eq_true, ↓reduceIte] at h42
      simp only [go_sem, ↓reduceIte, Nat.reduceEqDiff, Nat.reduceAdd, Nat.reduceLeDiff, Nat.reduceBEq, Nat.reduceMul, Nat.reduceLT, Int.reduceLT, Int.reduceLE, Int.reduceToNat, Int.reduceNeg, Int.reduceEq, Int.reduceMul, reduceCtorEq, fn16, res16, gc16, grow16, ty3, ty22, ty23, ty25, ty29, ty30, ty56, ty63, ty69, ty72, ty75, ty80, ty82, ty83, ty114, plan16_3, plan16_4, plan16_5, sb, st, h42, h52]
    | true =>
      have hw := Stl.valid_wf hv
      simp only [Bool.and_eq_true] at hc
      obtain ⟨h0, hb⟩ := Stl.inB_blk hc.1
      obtain ⟨mm, rfl, hmm⟩ := Stl.inM_nat hw hc.2
      have hbo := hw.bs _ (List.mem_of_getElem? hb)
      obtain ⟨es', hg', hr⟩ := f46 hw n (s.blk n) h0 hb _ mm hmm (s.blk n).n hbo.hn (spans_it (hp.app [.box (.agg [I 0, I 0]), .box (.agg [I 0, I 0])]) n mm) (Good.nil s)
      change callFL cfg0 prog0 false 46 _ _ none = some ⟨.ret (.agg [I (warmLo s n (s.blk n) mm), I (warmHi s n (s.blk n) mm)]), _, _⟩ at hr
      have h47 := f47 n mm (hp.app [.box (.agg [I 0, I 0]), .box (.agg [I 0, I 0])]).hL
      simp only [pl4, List.append_assoc, List.cons_append, List.nil_append, List.append_nil, List.length_append, List.length_cons, List.length_nil, Nat.zero_add, Nat.add_zero, Nat.add_assoc, Nat.reduceAdd, set_at, set_at', List.set_cons_zero, List.set_cons_succ] at hr h47
      simp only [hv, hc, Bool.and_self, ↓reduceIte] at h42
      obtain ⟨hlo, hhi⟩ := warm_bd hw hb hmm
      have g0b : 0 ≤ (s.blk n).g0 ∧ (s.blk n).g0 ≤ 20 := by have := hbo.a7; have := hbo.a8; have := hbo.a9; omega
      have g1b : 0 ≤ (s.blk n).g1 ∧ (s.blk n).g1 ≤ 20 := by have := hbo.a7; have := hbo.a8; have := hbo.a9; omega
      have d1 := fun G => f54 (warmLo s n (s.blk n) mm) (s.blk n).g0 G (mul_bd hlo g0b).1 (mul_bd hlo g0b).2
      have d2 := fun G => f54 (warmLo s n (s.blk n) mm) (s.blk n).g1 G (mul_bd hlo g1b).1 (mul_bd hlo g1b).2
      have d3 := fun G => f54 (warmHi s n (s.blk n) mm) (s.blk n).g0 G (mul_bd hhi g0b).1 (mul_bd hhi g0b).2
      have d4 := fun G => f54 (warmHi s n (s.blk n) mm) (s.blk n).g1 G (mul_bd hhi g1b).1 (mul_bd hhi g1b).2
      obtain ⟨-, -, a3, a4, a5⟩ := hvb.at (k := n) (x := Blk.av (s.blk n)) h0 (by simp [hb])
      simp only [go_sem, ↓reduceIte, Nat.reduceEqDiff, Nat.reduceAdd, Nat.reduceLeDiff, Nat.reduceBEq, Nat.reduceMul, Nat.reduceLT, Int.reduceLT, Int.reduceLE, Int.reduceToNat, Int.reduceNeg, Int.reduceEq, Int.reduceMul, reduceCtorEq, fn16, res16, gc16, grow16, ty3, ty22, ty23, ty25, ty29, ty30, ty56, ty63, ty69, ty72, ty75, ty80, ty82, ty83, ty114, plan16_3, plan16_4, plan16_5, sb, st, h42]
      rw [chkK_of]; rotate_left; kernel_rfl
      have hel : ptrOf (elA vb n 4) = gslOf vb := ptrOf_elA hvb
      rcases hvb.obj with hg | ⟨l, hg, hlt, hget⟩
      · simp only [go_sem, ↓reduceIte, Nat.reduceEqDiff, Nat.reduceAdd, Nat.reduceLeDiff, Nat.reduceBEq, Nat.reduceMul, Nat.reduceLT, Int.reduceLT, Int.reduceLE, Int.reduceToNat, Int.reduceNeg, Int.reduceEq, Int.reduceMul, reduceCtorEq, fn16, res16, gc16, grow16, ty3, ty22, ty23, ty25, ty29, ty30, ty56, ty63, ty69, ty72, ty75, ty80, ty82, ty83, ty114, plan16_3, plan16_4, plan16_5, sb, st, h47, hr, a3, a4, a5, Blk.av, hel, hg]
        rw [chkK_of]; rotate_left; kernel_rfl
        simp only [go_sem, ↓reduceIte, Nat.reduceEqDiff, Nat.reduceAdd, Nat.reduceLeDiff, Nat.reduceBEq, Nat.reduceMul, Nat.reduceLT, Int.reduceLT, Int.reduceLE, Int.reduceToNat, Int.reduceNeg, Int.reduceEq, Int.reduceMul, reduceCtorEq, fn16, res16, gc16, grow16, ty3, ty22, ty23, ty25, ty29, ty30, ty56, ty63, ty69, ty72, ty75, ty80, ty82, ty83, ty114, plan16_3, plan16_4, plan16_5]
        rw [chkK_of]; rotate_left; kernel_rfl
        simp only [go_sem, ↓reduceIte, Nat.reduceEqDiff, Nat.reduceAdd, Nat.reduceLeDiff, Nat.reduceBEq, Nat.reduceMul, Nat.reduceLT, Int.reduceLT, Int.reduceLE, Int.reduceToNat, Int.reduceNeg, Int.reduceEq, Int.reduceMul, reduceCtorEq, fn16, res16, gc16, grow16, ty3, ty22, ty23, ty25, ty29, ty30, ty56, ty63, ty69, ty72, ty75, ty80, ty82, ty83, ty114, plan16_3, plan16_4, plan16_5, d1, d2, d3, d4, f52n, Int.toNat_natCast, mn, mx]
      · simp only [go_sem, ↓reduceIte, Nat.reduceEqDiff, Nat.reduceAdd, Nat.reduceLeDiff, Nat.reduceBEq, Nat.reduceMul, Nat.reduceLT, Int.reduceLT, Int.reduceLE, Int.reduceToNat, Int.reduceNeg, Int.reduceEq, Int.reduceMul, reduceCtorEq, fn16, res16, gc16, grow16, ty3, ty22, ty23, ty25, ty29, ty30, ty56, ty63, ty69, ty72, ty75, ty80, ty82, ty83, ty114, plan16_3, plan16_4, plan16_5, sb, st, h47, hr, a3, a4, a5, Blk.av, hel, hg, get_lt hlt, hget]
        rw [chkK_of]; rotate_left; kernel_rfl
        simp only [go_sem, ↓reduceIte, Nat.reduceEqDiff, Nat.reduceAdd, Nat.reduceLeDiff, Nat.reduceBEq, Nat.reduceMul, Nat.reduceLT, Int.reduceLT, Int.reduceLE, Int.reduceToNat, Int.reduceNeg, Int.reduceEq, Int.reduceMul, reduceCtorEq, fn16, res16, gc16, grow16, ty3, ty22, ty23, ty25, ty29, ty30, ty56, ty63, ty69, ty72, ty75, ty80, ty82, ty83, ty114, plan16_3, plan16_4, plan16_5]
        rw [chkK_of]; rotate_left; kernel_rfl
        simp only [go_sem, ↓reduceIte, Nat.reduceEqDiff, Nat.reduceAdd, Nat.reduceLeDiff, Nat.reduceBEq, Nat.reduceMul, Nat.reduceLT, Int.reduceLT, Int.reduceLE, Int.reduceToNat, Int.reduceNeg, Int.reduceEq, Int.reduceMul, reduceCtorEq, fn16, res16, gc16, grow16, ty3, ty22, ty23, ty25, ty29, ty30, ty56, ty63, ty69, ty72, ty75, ty80, ty82, ty83, ty114, plan16_3, plan16_4, plan16_5, d1, d2, d3, d4, f52n, Int.toNat_natCast, mn, mx]


/-- Whether a block can have settled, by what spans say. -/
def someS (s : Stl) (blk : Int) (b : Blk) (m : Nat) : Bool := (findN (fun j => decide (exc s.ts blk (b.x 0) (b.s0 + j) 0 m ≤ s.near) && decide (-s.near ≤ exc s.ts blk (b.x 1) (b.s0 + j) 1 m)) 0 b.n).isSome

/-- What Settled tells. -/
def Stl.settled (s : Stl) (n m : Int) : Int × Int :=
  if s.valid then (if s.inB n && s.inM m then ((if settl s n (s.blk n) m.toNat then 2 else if someS s n (s.blk n) m.toNat then 1 else 0), 0) else (0, 2)) else (0, 1)

theorem f18 (s : Stl) (hvb : SlOk H 6 vb (s.bs.map Blk.av)) (hvt : SlOk H 4 vt (s.ts.map Tch.av)) (hl : s.bs.length ≤ 1000) (hl2 : s.ts.length ≤ 1000) (n m : Int) :
    callFL cfg0 prog0 false 18 [.agg [vb, I s.near, I s.last, vt], I n, I m] H none = some ⟨.ret (.tup [I (s.settled n m).1, I (s.settled n m).2]), H, none⟩ := by
  have sb := hvb.scal
  have st := hvt.scal
  have hp := pl4_ok (H ++ [.box (.agg [vb, I s.near, I s.last, vt]), .box (I n), .box (I m), .box (I 0)]) vb vt s (hvb.app _) (hvt.app _)
  have h42 := f42 (H ++ [.box (.agg [vb, I s.near, I s.last, vt]), .box (I n), .box (I m), .box (I 0)]) vb vt s 58 [.ptr (H.length + 1) 0, .ptr (H.length + 2) 0] (s.inB n && s.inM m) (hvb.app _) (hvt.app _) hl hl2
    (fun N => by simp [ltL, AV.lt]; omega) (f58 hp hl _ _ n m (by simp [pl4, List.append_assoc, List.cons_append, List.nil_append, List.append_nil, List.length_append, List.length_cons, List.length_nil, Nat.zero_add, Nat.add_zero, Nat.add_assoc, Nat.reduceAdd, set_at, set_at', List.set_cons_zero, List.set_cons_succ, get_at']) (by simp [pl4, List.append_assoc, List.cons_append, List.nil_append, List.append_nil, List.length_append, List.length_cons, List.length_nil, Nat.zero_add, Nat.add_zero, Nat.add_assoc, Nat.reduceAdd, set_at, set_at', List.set_cons_zero, List.set_cons_succ, get_at']))
  simp only [pl4, List.append_assoc, List.cons_append, List.nil_append, List.append_nil, List.length_append, List.length_cons, List.length_nil, Nat.zero_add, Nat.add_zero, Nat.add_assoc, Nat.reduceAdd, set_at, set_at', List.set_cons_zero, List.set_cons_succ] at h42
  have h57 := fun e => f57s (H.length + 3) e 0 (H ++ [.box (.agg [vb, I s.near, I s.last, vt]), .box (I n), .box (I m), .box (I 0)]) (by simp [get_at'])
  refine (callFL_eq fn18 rfl (by simp [Try.f18])).trans ?_
  simp only [Stl.settled]
  cases hv : s.valid with
  | false =>
    simp only [hv, Bool.false_eq_true, ↓reduceIte] at h42
    simp only [go_sem, ↓reduceIte, Nat.reduceEqDiff, Nat.reduceAdd, Nat.reduceLeDiff, Nat.reduceBEq, Nat.reduceMul, Nat.reduceLT, Int.reduceLT, Int.reduceLE, Int.reduceToNat, Int.reduceNeg, Int.reduceEq, Int.reduceMul, reduceCtorEq, fn18, res18, gc18, grow18, ty3, ty22, ty23, ty25, ty29, ty30, ty56, ty63, ty69, ty72, ty75, ty88, ty90, sb, st, h42, h57]
  | true =>
    cases hc : (s.inB n && s.inM m) with
    | false =>
      simp only [hv, hc, Bool.false_eq_true, ↓reduceIte] at h42
      simp only [go_sem, ↓reduceIte, Nat.reduceEqDiff, Nat.reduceAdd, Nat.reduceLeDiff, Nat.reduceBEq, Nat.reduceMul, Nat.reduceLT, Int.reduceLT, Int.reduceLE, Int.reduceToNat, Int.reduceNeg, Int.reduceEq, Int.reduceMul, reduceCtorEq, fn18, res18, gc18, grow18, ty3, ty22, ty23, ty25, ty29, ty30, ty56, ty63, ty69, ty72, ty75, ty88, ty90, sb, st, h42, h57]
    | true =>
      have hw := Stl.valid_wf hv
      simp only [Bool.and_eq_true] at hc
      obtain ⟨h0, hb⟩ := Stl.inB_blk hc.1
      obtain ⟨mm, rfl, hmm⟩ := Stl.inM_nat hw hc.2
      have hbo := hw.bs _ (List.mem_of_getElem? hb)
      have hp9 := hp.app [.box (.ptr (H.length + 7) 0)]
      obtain ⟨es1, hg1, h59⟩ := f59 hw n (s.blk n) h0 hb mm hmm hp9 (Good.nil s)
      have hp1 := hp9.set es1
      have hit := spans_it hp1 n mm
      have h47 := f47 n mm hp1.hL
      obtain ⟨es2, x, y, hg2, h60⟩ := f60 hw n (s.blk n) h0 hb _ mm hmm (s.blk n).n hbo.hn hit hg1 (.func 61) [.ptr (H.length + 8) 0] (fun j => decide (exc s.ts n ((s.blk n).x 0) ((s.blk n).s0 + j) 0 mm ≤ s.near) && decide (-s.near ≤ exc s.ts n ((s.blk n).x 1) ((s.blk n).s0 + j) 1 mm)) (by
        intro j es E
        rw [callVL_func]
        have h8 : ((H ++ [AO.box (.agg [vb, I s.near, I s.last, vt]), AO.box (I n), AO.box (I mm), AO.box (I 0)]) ++ pl4 (H ++ [AO.box (.agg [vb, I s.near, I s.last, vt]), AO.box (I n), AO.box (I mm), AO.box (I 0)]).length vb vt s ++ [AO.box (.ptr (H.length + 7) 0)])[H.length + 8]? = some (.box (.ptr (H.length + 7) 0)) := by
          simp only [pl4, List.append_assoc, List.cons_append, List.nil_append, List.append_nil, List.length_append, List.length_cons, List.length_nil, Nat.zero_add, Nat.add_zero, Nat.add_assoc, Nat.reduceAdd, set_at, set_at', List.set_cons_zero, List.set_cons_succ, get_at']; rfl
        have hpz := (hit.set es).pl.app E
        refine f61 hpz hw.near (H.length + 8) ?_ _ _
        rw [get_lt (by simp [pl4]), List.getElem?_set_ne (by simp), get_lt (by simp [pl4]), List.getElem?_set_ne (by simp)]
        rw [h8]
        simp)
      simp only [pl4, List.append_assoc, List.cons_append, List.nil_append, List.append_nil, List.length_append, List.length_cons, List.length_nil, Nat.zero_add, Nat.add_zero, Nat.add_assoc, Nat.reduceAdd, set_at, set_at', List.set_cons_zero, List.set_cons_succ] at h59 h47 h60
      simp only [hv, hc, Bool.and_self, ↓reduceIte] at h42
      have hso : (findN (fun j => decide (exc s.ts n ((s.blk n).x 0) ((s.blk n).s0 + j) 0 mm ≤ s.near) && decide (-s.near ≤ exc s.ts n ((s.blk n).x 1) ((s.blk n).s0 + j) 1 mm)) 0 (s.blk n).n).isSome = someS s n (s.blk n) mm := rfl
      rw [hso] at h60
      cases hse : settl s n (s.blk n) mm with
      | true => simp only [go_sem, ↓reduceIte, Nat.reduceEqDiff, Nat.reduceAdd, Nat.reduceLeDiff, Nat.reduceBEq, Nat.reduceMul, Nat.reduceLT, Int.reduceLT, Int.reduceLE, Int.reduceToNat, Int.reduceNeg, Int.reduceEq, Int.reduceMul, reduceCtorEq, fn18, res18, gc18, grow18, ty3, ty22, ty23, ty25, ty29, ty30, ty56, ty63, ty69, ty72, ty75, ty88, ty90, sb, st, h42, h59, hse, f57n, Int.toNat_natCast]
      | false =>
        cases hsm : someS s n (s.blk n) mm with
        | true => simp only [go_sem, ↓reduceIte, Nat.reduceEqDiff, Nat.reduceAdd, Nat.reduceLeDiff, Nat.reduceBEq, Nat.reduceMul, Nat.reduceLT, Int.reduceLT, Int.reduceLE, Int.reduceToNat, Int.reduceNeg, Int.reduceEq, Int.reduceMul, reduceCtorEq, fn18, res18, gc18, grow18, ty3, ty22, ty23, ty25, ty29, ty30, ty56, ty63, ty69, ty72, ty75, ty88, ty90, sb, st, h42, h59, h47, h60, hse, hsm, f57n, Int.toNat_natCast]
        | false => simp only [go_sem, ↓reduceIte, Nat.reduceEqDiff, Nat.reduceAdd, Nat.reduceLeDiff, Nat.reduceBEq, Nat.reduceMul, Nat.reduceLT, Int.reduceLT, Int.reduceLE, Int.reduceToNat, Int.reduceNeg, Int.reduceEq, Int.reduceMul, reduceCtorEq, fn18, res18, gc18, grow18, ty3, ty22, ty23, ty25, ty29, ty30, ty56, ty63, ty69, ty72, ty75, ty88, ty90, sb, st, h42, h59, h47, h60, hse, hsm, f57n, Int.toNat_natCast]

/-- What When tells. -/
def Stl.when (s : Stl) (n : Int) : Int × Int :=
  if s.valid then (if s.inB n then (match whenR s n (s.blk n) with | some w => (w, 0) | none => (0, 4)) else (0, 2)) else (0, 1)

theorem f20 (s : Stl) (hvb : SlOk H 6 vb (s.bs.map Blk.av)) (hvt : SlOk H 4 vt (s.ts.map Tch.av)) (hl : s.bs.length ≤ 1000) (hl2 : s.ts.length ≤ 1000) (n : Int) :
    callFL cfg0 prog0 false 20 [.agg [vb, I s.near, I s.last, vt], I n] H none = some ⟨.ret (.tup [I (s.when n).1, I (s.when n).2]), H, none⟩ := by
  have sb := hvb.scal
  have st := hvt.scal
  have hp := pl4_ok (H ++ [.box (.agg [vb, I s.near, I s.last, vt]), .box (I n), .box (I 0)]) vb vt s (hvb.app _) (hvt.app _)
  have h42 := f42 (H ++ [.box (.agg [vb, I s.near, I s.last, vt]), .box (I n), .box (I 0)]) vb vt s 65 [.ptr (H.length + 1) 0] (s.inB n) (hvb.app _) (hvt.app _) hl hl2
    (fun N => by simp [ltL, AV.lt]; omega) (f65 hp hl _ n (by simp [pl4, List.append_assoc, List.cons_append, List.nil_append, List.append_nil, List.length_append, List.length_cons, List.length_nil, Nat.zero_add, Nat.add_zero, Nat.add_assoc, Nat.reduceAdd, set_at, set_at', List.set_cons_zero, List.set_cons_succ, get_at']))
  simp only [pl4, List.append_assoc, List.cons_append, List.nil_append, List.append_nil, List.length_append, List.length_cons, List.length_nil, Nat.zero_add, Nat.add_zero, Nat.add_assoc, Nat.reduceAdd, set_at, set_at', List.set_cons_zero, List.set_cons_succ] at h42
  have h64 := fun e => f64s (H.length + 2) e 0 (H ++ [.box (.agg [vb, I s.near, I s.last, vt]), .box (I n), .box (I 0)]) (by simp [get_at'])
  refine (callFL_eq fn20 rfl (by simp [Try.f20])).trans ?_
  simp only [Stl.when]
  cases hv : s.valid with
  | false =>
    simp only [hv, Bool.false_eq_true, ↓reduceIte] at h42
    simp only [go_sem, ↓reduceIte, Nat.reduceEqDiff, Nat.reduceAdd, Nat.reduceLeDiff, Nat.reduceBEq, Nat.reduceMul, Nat.reduceLT, Int.reduceLT, Int.reduceLE, Int.reduceToNat, Int.reduceNeg, Int.reduceEq, Int.reduceMul, reduceCtorEq, fn20, res20, gc20, grow20, ty3, ty22, ty23, ty25, ty29, ty30, ty56, ty63, ty69, ty72, plan20_2, sb, st]
    rw [chkK_of]; rotate_left; kernel_rfl
    simp only [go_sem, ↓reduceIte, Nat.reduceEqDiff, Nat.reduceAdd, Nat.reduceLeDiff, Nat.reduceBEq, Nat.reduceMul, Nat.reduceLT, Int.reduceLT, Int.reduceLE, Int.reduceToNat, Int.reduceNeg, Int.reduceEq, Int.reduceMul, reduceCtorEq, fn20, res20, gc20, grow20, ty3, ty22, ty23, ty25, ty29, ty30, ty56, ty63, ty69, ty72, plan20_2, sb, st, h42, h64]
  | true =>
    cases hc : s.inB n with
    | false =>
      simp only [hv, hc, Bool.false_eq_true, ↓reduceIte] at h42
      simp only [go_sem, ↓reduceIte, Nat.reduceEqDiff, Nat.reduceAdd, Nat.reduceLeDiff, Nat.reduceBEq, Nat.reduceMul, Nat.reduceLT, Int.reduceLT, Int.reduceLE, Int.reduceToNat, Int.reduceNeg, Int.reduceEq, Int.reduceMul, reduceCtorEq, fn20, res20, gc20, grow20, ty3, ty22, ty23, ty25, ty29, ty30, ty56, ty63, ty69, ty72, plan20_2, sb, st]
      rw [chkK_of]; rotate_left; kernel_rfl
      simp only [go_sem, ↓reduceIte, Nat.reduceEqDiff, Nat.reduceAdd, Nat.reduceLeDiff, Nat.reduceBEq, Nat.reduceMul, Nat.reduceLT, Int.reduceLT, Int.reduceLE, Int.reduceToNat, Int.reduceNeg, Int.reduceEq, Int.reduceMul, reduceCtorEq, fn20, res20, gc20, grow20, ty3, ty22, ty23, ty25, ty29, ty30, ty56, ty63, ty69, ty72, plan20_2, sb, st, h42, h64]
    | true =>
      have hw := Stl.valid_wf hv
      obtain ⟨h0, hb⟩ := Stl.inB_blk hc
      obtain ⟨es', hg', hr⟩ := f66 hw n (s.blk n) h0 hb hp (Good.nil s)
      simp only [pl4, List.append_assoc, List.cons_append, List.nil_append, List.append_nil, List.length_append, List.length_cons, List.length_nil, Nat.zero_add, Nat.add_zero, Nat.add_assoc, Nat.reduceAdd, set_at, set_at', List.set_cons_zero, List.set_cons_succ] at hr
      simp only [hv, hc, ↓reduceIte] at h42
      have h64' := fun e => f64s (H.length + 2) e 0 (H ++ [.box (.agg [vb, I s.near, I s.last, vt]), .box (I n), .box (I 0), .box (.agg [vb, I s.near, I s.last, vt]), .box (.agg [vb, I s.near, I s.last, vt]), .map 114 es', .box (.agg [vb, I s.near, I s.last, vt, .map (H.length + 5)])]) (by simp [get_at'])
      cases hwr : whenR s n (s.blk n) with
      | none =>
        simp only [hwr] at hr
        simp only [go_sem, ↓reduceIte, Nat.reduceEqDiff, Nat.reduceAdd, Nat.reduceLeDiff, Nat.reduceBEq, Nat.reduceMul, Nat.reduceLT, Int.reduceLT, Int.reduceLE, Int.reduceToNat, Int.reduceNeg, Int.reduceEq, Int.reduceMul, reduceCtorEq, fn20, res20, gc20, grow20, ty3, ty22, ty23, ty25, ty29, ty30, ty56, ty63, ty69, ty72, plan20_2, sb, st]
        rw [chkK_of]; rotate_left; kernel_rfl
        simp only [go_sem, ↓reduceIte, Nat.reduceEqDiff, Nat.reduceAdd, Nat.reduceLeDiff, Nat.reduceBEq, Nat.reduceMul, Nat.reduceLT, Int.reduceLT, Int.reduceLE, Int.reduceToNat, Int.reduceNeg, Int.reduceEq, Int.reduceMul, reduceCtorEq, fn20, res20, gc20, grow20, ty3, ty22, ty23, ty25, ty29, ty30, ty56, ty63, ty69, ty72, plan20_2, sb, st, h42, hr, h64']
      | some w =>
        simp only [hwr] at hr
        simp only [go_sem, ↓reduceIte, Nat.reduceEqDiff, Nat.reduceAdd, Nat.reduceLeDiff, Nat.reduceBEq, Nat.reduceMul, Nat.reduceLT, Int.reduceLT, Int.reduceLE, Int.reduceToNat, Int.reduceNeg, Int.reduceEq, Int.reduceMul, reduceCtorEq, fn20, res20, gc20, grow20, ty3, ty22, ty23, ty25, ty29, ty30, ty56, ty63, ty69, ty72, plan20_2, sb, st]
        rw [chkK_of]; rotate_left; kernel_rfl
        simp only [go_sem, ↓reduceIte, Nat.reduceEqDiff, Nat.reduceAdd, Nat.reduceLeDiff, Nat.reduceBEq, Nat.reduceMul, Nat.reduceLT, Int.reduceLT, Int.reduceLE, Int.reduceToNat, Int.reduceNeg, Int.reduceEq, Int.reduceMul, reduceCtorEq, fn20, res20, gc20, grow20, ty3, ty22, ty23, ty25, ty29, ty30, ty56, ty63, ty69, ty72, plan20_2, sb, st, h42, hr, f64n]

/-! ### All -/

/-- The latest minute of so many blocks. -/
def allR (s : Stl) : Nat → Option Int
  | 0 => some 0
  | j + 1 => match allR s j with
    | some a => match whenR s j (s.blk j) with
      | some w => some (mx a w)
      | none => none
    | none => none

def Stl.allE (s : Stl) : Int × Int := match allR s s.bs.length with | some w => (w, 0) | none => (0, 4)

theorem allR_none {s : Stl} {j : Nat} (h : allR s j = none) : ∀ k, allR s (j + k) = none
  | 0 => h
  | k + 1 => by rw [← Nat.add_assoc]; simp only [allR, allR_none h k]

theorem f22_loop (s : Stl) (hs : s.Wf) (hvb : SlOk H 6 vb (s.bs.map Blk.av)) (hvt : SlOk H 4 vt (s.ts.map Tch.av)) :
    ∀ (n j : Nat) (es : List (AV × AV)) (acc : Int), j + n = s.bs.length → Good s es → allR s j = some acc →
    ∀ (E : Env) (G : Heap), E.get 2 = I 0 → E.get 3 = .ptr (H.length + 1) 0 → E.get 4 = .ptr (H.length + 5) 0 → E.get 5 = I acc → E.get 15 = I s.bs.length → E.get 16 = I j→
    Option.map (finishC H.length) (execL cfg0 prog0 ⟨22, none, false, H.length⟩ (todoAt Try.f22 5) ⟨E, [.fn (.func 67) [] [.ptr (H.length + 1) 0]], H ++ (.box (.agg [vb, I s.near, I s.last, vt]) :: .box (I 0) :: .box (.agg [vb, I s.near, I s.last, vt]) :: .box (.agg [vb, I s.near, I s.last, vt]) :: .map 114 es :: .box (.agg [vb, I s.near, I s.last, vt, .map (H.length + 4)]) :: G), none⟩) =
      some ⟨.ret (.tup [I s.allE.1, I s.allE.2]), H, none⟩ := by
  intro n
  have sb := hvb.scal
  have st := hvt.scal
  induction n with
  | zero =>
    intro j es acc hj hg ha E G g2 g3 g4 g5 g15 g16
    have hjl : j = s.bs.length := by omega
    have hk' : ¬ (j : Int) < s.bs.length := by omega
    rw [hjl] at ha
    simp only [Stl.allE, ha]
    simp only [loopIt, todoPast, todoAt, todoOf, firstReg, ↓reduceIte, Option.some.injEq, Nat.reduceEqDiff, reduceCtorEq, Try.f22]
    rw [execL_inLoop]
    simp only [go_sem, ↓reduceIte, Nat.reduceEqDiff, Nat.reduceAdd, Nat.reduceLeDiff, Nat.reduceBEq, Nat.reduceMul, Nat.reduceLT, Int.reduceLT, Int.reduceLE, Int.reduceToNat, Int.reduceNeg, Int.reduceEq, Int.reduceMul, reduceCtorEq, fn22, res22, gc22_0, gc22_1, gc22_2, gc22_3, gc22_4, gc22_5, gc22_6, gc22_7, gc22_8, gc22_9, gcSt, keepEnv, envLt, heapLt, dfrLt, ADefer.lt, grow22, ty3, ty22, ty23, ty25, ty29, ty30, ty56, ty63, ty69, ty72, ty80, ty82, ty83, ty114, g2, g3, g4, g5, g15, g16, hk', hvb.ltn, hvt.ltn, hg.1, f67n]
  | succ n ih =>
    intro j es acc hj hg ha E G g2 g3 g4 g5 g15 g16
    have hk' : (j : Int) < s.bs.length := by omega
    have hj1 : IntKind.i64.wrap ((j : Int) + 1) = ((j + 1 : Nat) : Int) := by have := hs.blen; rw [w64 (by omega) (by omega)]; omega
    have hb : s.bs[(j : Int).toNat]? = some (s.blk j) := by
      have hlt : j < s.bs.length := by omega
      simp only [Stl.blk, Int.toNat_natCast, List.getD_eq_getElem?_getD, List.getElem?_eq_getElem hlt, Option.getD_some]
    have hp : PlOk (H ++ [.box (.agg [vb, I s.near, I s.last, vt]), .box (I 0), .box (.agg [vb, I s.near, I s.last, vt]), .box (.agg [vb, I s.near, I s.last, vt]), .map 114 es, .box (.agg [vb, I s.near, I s.last, vt, .map (H.length + 4)])]) (H.length + 5) (H.length + 4) vb vt s es :=
      ⟨by rw [get_at' 5]; rfl, by rw [get_at' 4]; rfl, hvb.app _, hvt.app _⟩
    obtain ⟨es', hg', hr⟩ := f66 hs j (s.blk j) (by omega) hb hp hg
    simp only [pl4, List.append_assoc, List.cons_append, List.nil_append, List.append_nil, List.length_append, List.length_cons, List.length_nil, Nat.zero_add, Nat.add_zero, Nat.add_assoc, Nat.reduceAdd, set_at, set_at', List.set_cons_zero, List.set_cons_succ] at hr
    simp only [loopIt, todoPast, todoAt, todoOf, firstReg, ↓reduceIte, Option.some.injEq, Nat.reduceEqDiff, reduceCtorEq, Try.f22]
    rw [execL_inLoop]
    cases hw : whenR s j (s.blk j) with
    | none =>
      have hn : allR s s.bs.length = none := by
        have h1 : allR s (j + 1) = none := by simp only [allR, ha, hw]
        have := allR_none h1 n
        rwa [show j + 1 + n = s.bs.length by omega] at this
      simp only [Stl.allE, hn]
      rw [hw] at hr
      simp only at hr
      have h67 := fun e => f67s (H.length + 1) e 0 (H ++ [.box (.agg [vb, I s.near, I s.last, vt]), .box (I 0), .box (.agg [vb, I s.near, I s.last, vt]), .box (.agg [vb, I s.near, I s.last, vt]), .map 114 es', .box (.agg [vb, I s.near, I s.last, vt, .map (H.length + 4)])]) (by simp [get_at'])
      simp only [go_sem, ↓reduceIte, Nat.reduceEqDiff, Nat.reduceAdd, Nat.reduceLeDiff, Nat.reduceBEq, Nat.reduceMul, Nat.reduceLT, Int.reduceLT, Int.reduceLE, Int.reduceToNat, Int.reduceNeg, Int.reduceEq, Int.reduceMul, reduceCtorEq, fn22, res22, gc22_0, gc22_1, gc22_2, gc22_3, gc22_4, gc22_5, gc22_6, gc22_7, gc22_8, gc22_9, gcSt, keepEnv, envLt, heapLt, dfrLt, ADefer.lt, grow22, ty3, ty22, ty23, ty25, ty29, ty30, ty56, ty63, ty69, ty72, ty80, ty82, ty83, ty114, g2, g3, g4, g5, g15, g16, hk', hvb.ltn, hvt.ltn, hg.1, hr, h67]
    | some w =>
      have h1 : allR s (j + 1) = some (mx acc w) := by simp only [allR, ha, hw]
      rw [hw] at hr
      simp only at hr
      simp only [go_sem, ↓reduceIte, Nat.reduceEqDiff, Nat.reduceAdd, Nat.reduceLeDiff, Nat.reduceBEq, Nat.reduceMul, Nat.reduceLT, Int.reduceLT, Int.reduceLE, Int.reduceToNat, Int.reduceNeg, Int.reduceEq, Int.reduceMul, reduceCtorEq, fn22, res22, gc22_0, gc22_1, gc22_2, gc22_3, gc22_4, gc22_5, gc22_6, gc22_7, gc22_8, gc22_9, gcSt, keepEnv, envLt, heapLt, dfrLt, ADefer.lt, grow22, ty3, ty22, ty23, ty25, ty29, ty30, ty56, ty63, ty69, ty72, ty80, ty82, ty83, ty114, g2, g3, g4, g5, g15, g16, hk', hvb.ltn, hvt.ltn, hg.1, hr, hj1]
      exact ih (j + 1) es' (mx acc w) (by omega) hg' h1 _ [] (by rfl) (by rfl) (by rfl) (by rfl) (by rfl) (by rfl)


/-- What All tells. -/
def Stl.allS (s : Stl) : Int × Int := if s.valid then s.allE else (0, 1)

theorem f22 (s : Stl) (hvb : SlOk H 6 vb (s.bs.map Blk.av)) (hvt : SlOk H 4 vt (s.ts.map Tch.av)) (hl : s.bs.length ≤ 1000) (hl2 : s.ts.length ≤ 1000) :
    callFL cfg0 prog0 false 22 [.agg [vb, I s.near, I s.last, vt]] H none = some ⟨.ret (.tup [I s.allS.1, I s.allS.2]), H, none⟩ := by
  have sb := hvb.scal
  have st := hvt.scal
  have h42 := f42 (H ++ [.box (.agg [vb, I s.near, I s.last, vt]), .box (I 0)]) vb vt s 68 [] true (hvb.app _) (hvt.app _) hl hl2
    (fun N => rfl) (f68 _ _)
  simp only [pl4, List.append_assoc, List.cons_append, List.nil_append, List.append_nil, List.length_append, List.length_cons, List.length_nil, Nat.zero_add, Nat.add_zero, Nat.add_assoc, Nat.reduceAdd, set_at, set_at', List.set_cons_zero, List.set_cons_succ] at h42
  have h67 := fun e => f67s (H.length + 1) e 0 (H ++ [.box (.agg [vb, I s.near, I s.last, vt]), .box (I 0)]) (by simp [get_at'])
  refine (callFL_eq fn22 rfl (by simp [Try.f22])).trans ?_
  simp only [Stl.allS]
  cases hv : s.valid with
  | false =>
    simp only [hv, Bool.false_eq_true, ↓reduceIte] at h42
    simp only [go_sem, ↓reduceIte, Nat.reduceEqDiff, Nat.reduceAdd, Nat.reduceLeDiff, Nat.reduceBEq, Nat.reduceMul, Nat.reduceLT, Int.reduceLT, Int.reduceLE, Int.reduceToNat, Int.reduceNeg, Int.reduceEq, Int.reduceMul, reduceCtorEq, fn22, res22, gc22_0, gc22_1, gc22_2, gc22_3, gc22_4, gc22_5, gc22_6, gc22_7, gc22_8, gc22_9, gcSt, keepEnv, envLt, heapLt, dfrLt, ADefer.lt, grow22, ty3, ty22, ty23, ty25, ty29, ty30, ty56, ty63, ty69, ty72, ty80, ty82, ty83, ty114, sb, st, h42, h67]
  | true =>
    have hw := Stl.valid_wf hv
    simp only [hv, ↓reduceIte] at h42
    have hb5 : evLen vb = some (I s.bs.length) := by rw [hvb.len, List.length_map]
    simp only [go_sem, ↓reduceIte, Nat.reduceEqDiff, Nat.reduceAdd, Nat.reduceLeDiff, Nat.reduceBEq, Nat.reduceMul, Nat.reduceLT, Int.reduceLT, Int.reduceLE, Int.reduceToNat, Int.reduceNeg, Int.reduceEq, Int.reduceMul, reduceCtorEq, fn22, res22, gc22_0, gc22_1, gc22_2, gc22_3, gc22_4, gc22_5, gc22_6, gc22_7, gc22_8, gc22_9, gcSt, keepEnv, envLt, heapLt, dfrLt, ADefer.lt, grow22, ty3, ty22, ty23, ty25, ty29, ty30, ty56, ty63, ty69, ty72, ty80, ty82, ty83, ty114, sb, st, h42, hb5]
    exact f22_loop s hw hvb hvt s.bs.length 0 [] 0 (by omega) (Good.nil s) rfl _ [] (by rfl) (by rfl) (by rfl) (by rfl) (by rfl) (by rfl)

end Go.Ab
