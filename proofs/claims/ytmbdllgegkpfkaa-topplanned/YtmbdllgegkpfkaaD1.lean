/-
  Code: the evaluator's run is the machine's; the whole of it, but for the regions that ask for an order.
-/
import Derived.Test.YtmbdllgegkpfkaaC9
namespace Go.Ab
set_option linter.unusedSimpArgs false
set_option linter.unusedVariables false

section
variable {C : Cfg} {P : Program} {B : Nat} {F : FI} {c : Cx} {e : Env} {tm : Array Value} {df : List Deferred} {rd : Option Nat} {u : Up} {todo k : List Item} {cs : List Frame} {w : World} {s : St} {d : Done}

/-! ### The next entry of a range over a map -/

theorem choose_run (n : Nat) (hn : 0 < n) (w : World) : ∃ j w1, (choose (.mapNext n)).run P w = .ok j w1 ∧ j < n ∧ w1.heap = w.heap ∧ SysEq w w1 := by
  by_cases h : n ≤ 1
  · refine ⟨0, w, ?_, hn, rfl, ⟨rfl, rfl, rfl⟩⟩
    have : Question.forced (.mapNext n) = true := by simpa [Question.forced] using h
    simp [choose, Sem.run, this]
  · refine ⟨_, { w with drawn := w.drawn + 1 }, ?_, Nat.mod_lt (w.tape w.drawn (.mapNext n)) hn, rfl, ⟨rfl, rfl, rfl⟩⟩
    have : Question.forced (.mapNext n) = false := by simpa [Question.forced] using h
    simp [choose, Sem.run, this, Question.cut]

theorem getIter_run {w : World} {b : Nat} {o : Obj} (h : w.heap[b]? = some o) (hc : ∀ cs T fr, o ≠ .cells cs T fr) : (getObj b).run P w = .ok o w := by
  cases o <;> simp_all [getObj, Sem.run]

theorem next_run {base : Nat} (hs : Sim P B c) (hb : HB base c.H) {l m n b : Nat} {seen : List Nat} {kt : TypeId} {es : List (AV × AV)} (hl : c.ρ l = some b) (hi : c.H[l]? = some (.iter m n seen)) (hm : c.H[m]? = some (.map kt es)) (hn : es.length = n) (ty : TypeId) :
    ∃ V w' p, (Instr.next (.pointer (some ⟨b, 0, none⟩)) false ty).run P c.w = .ok V w' ∧ p ∈ nextVals es seen ∧ Sim P B ⟨w', c.ρ, c.H.set l (.iter m n p.2)⟩ ∧ Tr base c ⟨w', c.ρ, c.H.set l (.iter m n p.2)⟩ ∧ HB base (c.H.set l (.iter m n p.2)) ∧
      Rel ⟨w', c.ρ, c.H.set l (.iter m n p.2)⟩ p.1 V := by
  obtain ⟨o, ho, hro⟩ := hs.obj l b hl
  rw [hi] at ho
  cases ho
  obtain ⟨d, g1, g2, kt', es', g3⟩ := hro
  rw [hm] at g3
  cases g3
  obtain ⟨o, ho, hro⟩ := hs.obj m d g2
  rw [hm] at ho
  cases ho
  obtain ⟨L, k1, k2, k3⟩ := hro
  have hlen : L.length = n := by rw [k2.len, hn]
  have hborn : ∀ (i : Nat) (e : MapEntry), L[i]? = some e → e.born = i := fun i e h => by simpa using (k2.at i e h).1
  have hlt : ∀ e ∈ L, e.born < n := by
    intro e he
    obtain ⟨i, hi', rfl⟩ := List.mem_iff_getElem.1 he
    rw [hborn i _ (List.getElem?_eq_getElem hi')]
    omega
  have r1 := getIter_run (P := P) g1 (by simp)
  have r2 := getIter_run (P := P) k1 (by simp)
  rw [hlen] at r2
  have hall : (!seen.toArray.isEmpty && !L.toArray.isEmpty && L.toArray.all (fun e => decide (e.born ≥ n))) = false := by
    cases L with
    | nil => simp
    | cons e L =>
      have := hlt e (by simp)
      simp [show ¬ n ≤ e.born by omega]
  -- what is left
  generalize hold : (L.toArray.filter fun e => !seen.toArray.contains e.born).filter (fun e => decide (e.born < n)) = old
  generalize hnew : (L.toArray.filter fun e => !seen.toArray.contains e.born).filter (fun e => decide (e.born ≥ n)) = new
  generalize hcd : (if old.isEmpty then #[none] else #[]) ++ (old ++ new).map some = cand
  have hsz : 0 < cand.size := by
    rw [← hcd]
    by_cases h : old.isEmpty = true
    · simp [h]; omega
    · have : 0 < old.size := by
        rcases Nat.eq_zero_or_pos old.size with h0 | h0
        · exact absurd (by simpa [Array.isEmpty] using h0) h
        · exact h0
      simp; omega
  obtain ⟨j, w1, q1, q2, q3, q4⟩ := choose_run (P := P) cand.size hsz c.w
  have hj : cand[j]? = some cand[j] := Array.getElem?_eq_getElem q2
  have hs1 := heap_sim hs q3 q4
  have ht1 := heap_tr (c := c) (base := base) q3 q4
  cases hx : cand[j] with
  | none =>
    have hmem : (none : Option MapEntry) ∈ cand := hx ▸ Array.getElem_mem q2
    rw [← hcd] at hmem
    have hemp : old.isEmpty = true := by
      by_cases h : old.isEmpty = true
      · exact h
      · simp [h] at hmem
    have hq : (List.range es.length).filter (fun i => !seen.contains i) = [] := by
      rw [List.filter_eq_nil_iff]
      intro i hi'
      rw [List.mem_range, hn] at hi'
      intro hc
      have hmemL : L[i]'(by omega) ∈ old := by
        rw [← hold]
        simp only [Array.mem_filter]
        refine ⟨⟨by simp, ?_⟩, ?_⟩
        · rw [hborn i _ (List.getElem?_eq_getElem (by omega))]; simpa using hc
        · rw [hborn i _ (List.getElem?_eq_getElem (by omega))]; simpa using hi'
      simp only [Array.isEmpty_iff] at hemp
      rw [hemp] at hmemL
      simp at hmemL
    have hset : c.H.set l (.iter m n seen) = c.H := by
      have hl' := (List.getElem?_eq_some_iff.1 hi)
      obtain ⟨h1, h2⟩ := hl'
      rw [← h2]
      exact List.set_getElem_self h1
    refine ⟨.tuple #[.bool false], w1, (.tup [.bool false], seen), ?_, ?_, ?_⟩
    · simp only [Instr.next, Sem.run_bind, r1, r2, Result.andThen_ok, hall, Bool.false_eq_true, if_false, Sem.run_pure, hold, hnew, hcd, q1, hj, hx]
    · simp only [nextVals, hq]
      simp
    · simp only
      rw [hset]
      refine ⟨hs1, ht1, hb, ?_⟩
      simp only [Rel, RelL]
      exact ⟨_, rfl, _, _, rfl, rfl, rfl⟩
  | some e =>
    have hmem : some e ∈ cand := hx ▸ Array.getElem_mem q2
    rw [← hcd] at hmem
    have hmemL : e ∈ L ∧ e.born ∉ seen := by
      have h1 : e ∈ old ∨ e ∈ new := by
        by_cases h : old.isEmpty = true <;> simpa [h] using hmem
      rw [← hold, ← hnew] at h1
      simp only [Array.mem_filter] at h1
      rcases h1 with ⟨⟨h1, h2⟩, _⟩ | ⟨⟨h1, h2⟩, _⟩ <;> exact ⟨by simpa using h1, by simpa using h2⟩
    obtain ⟨i, hi', hie⟩ := List.mem_iff_getElem.1 hmemL.1
    have hLi : L[i]? = some e := by rw [List.getElem?_eq_getElem hi', hie]
    have hbi := hborn i e hLi
    obtain ⟨pv, hp1, hp2, hp3⟩ := (k2.at i e hLi).2
    have g1' : w1.heap[b]? = some (.mapIter (some d) n seen.toArray n) := by rw [q3]; exact g1
    obtain ⟨z1, z2, z3, z4⟩ := set_obj (base := base) (c := ⟨w1, c.ρ, c.H⟩) (y := .mapIter (some d) n (seen.toArray.push e.born) n) (a := .iter m n (seen ++ [i])) hs1 hb hl hi g1' (by simp) (by simp [Kind])
      (fun c' hx' hy => by
        obtain ⟨x', h4, h5⟩ := hx'.kind _ _ hm
        cases x' <;> simp only [Kind] at h5
        exact ⟨d, by rw [hy, hbi]; simp, hx'.same _ _ _ hm g2 (by simp), _, _, h4⟩) (fun N hN => hN)
    refine ⟨.tuple #[.bool true, e.key, e.val], _, (.tup [.bool true, pv.1, pv.2], seen ++ [i]), ?_, ?_, z2, ht1.trans z3, z4, ?_⟩
    · simp only [Instr.next, Sem.run_bind, r1, r2, Result.andThen_ok, hall, Bool.false_eq_true, if_false, Sem.run_pure, hold, hnew, hcd, q1, hj, hx, z1]
    · have hq : i ∈ (List.range es.length).filter (fun i => !seen.contains i) := by
        rw [List.mem_filter, List.mem_range]
        exact ⟨by omega, by rw [hbi] at hmemL; simpa using hmemL.2⟩
      simp only [nextVals]
      split
      · rename_i e0; rw [e0] at hq; simp at hq
      · refine List.mem_map.2 ⟨i, hq, ?_⟩
        have : es.getD i (.undef, .undef) = pv := by simp [hp1]
        rw [this]
    · have hx2 := (ht1.trans z3).ext
      simp only [Rel, RelL]
      exact ⟨_, rfl, _, _, rfl, rfl, _, _, rfl, Rel.ext hx2 _ _ hp2, _, _, rfl, Rel.ext hx2 _ _ hp3, rfl⟩

/-- The next entry, in a region: one of the ways that the evaluator takes. -/
theorem next_ok (ok : Ok C P) {opl : Array Oper} {s : St} {alts : List St} (h : nextOf C opl.toList s = some alts) (f : FOk P B c F s tm df rd k) (hdst : ∀ o ∈ opl.toList, dstOk tm.size o) (u : Up) (m : FrameMode) :
    0 < opl.size ∧ ∃ s' ∈ alts, ∃ c' tm', tm'.size = tm.size ∧ s'.pan = s.pan ∧
      step P (lone (frm F tm (.inRegion opl (List.range' 0 (opl.size - 0)) :: k) df .run u rd) (u.cs m) c.w) = .next (lone (frm F tm' (.inRegion opl (List.range' 1 (opl.size - 1)) :: k) df .run u rd) (u.cs m) c'.w) ∧
      FOk P B c' F s' tm' df rd k ∧ Tr F.base c c' := by
  unfold nextOf at h
  split at h
  · rename_i o r hall
    have hsz : 0 < opl.size := by
      have := congrArg List.length hall
      simp at this; omega
    have ho : opl[0]? = some o := by
      have := congrArg (·[0]?) hall
      simpa using this
    have hmem : o ∈ opl.toList := by rw [hall]; simp
    split at h
    · rename_i it hop hg
      split at h
      · rename_i l hit
        split at h
        · rename_i mm n seen hi
          split at h
          · rename_i kt es hm
            split at h
            · rename_i hn
              cases h
              rw [← f.hH] at hi hm
              have hr := rel_opd (a := Act.mk tm df) ok f.sim.glob f.env it
              rw [hit] at hr
              simp only [Rel] at hr
              obtain ⟨b, hb, _, hV⟩ := hr
              obtain ⟨V, w', p, h1, h2, h3, h4, h5, h6⟩ := next_run (P := P) (base := F.base) f.sim f.hb hb hi hm hn o.type
              refine ⟨hsz, _, List.mem_map_of_mem h2, ⟨w', c.ρ, c.H.set l (.iter mm n p.2)⟩, putT tm o.dst V, putT_size .., rfl, ?_, ?_, h4⟩
              · have hw : Region.wanted o (yielded opl tm) = true := by simp [Region.wanted, hg]
                have hrun : (execOp (Act.mk tm df).eval o).run P c.w = .ok (.value V) w' := by
                  simp only [execOp, hop, hV]
                  exact v_run _ h1
                have := step_value (P := P) (u := u) (F := F) (df := df) (rd := rd) (k := k) (cs := u.cs m) 0 (List.range' 1 (opl.size - 1)) ho hw (.inr (by rw [hop]; simp)) hrun (.inl rfl)
                rw [show opl.size - 0 = (opl.size - 1) + 1 by omega, List.range'_succ]
                exact this
              · exact f.put h4.ext h3 h5 (by rw [f.hH]) h6 (hdst o hmem)
            · cases h
          · cases h
        · cases h
      · cases h
    · cases h
  · cases h

def LeaveOk (C : Cfg) (P : Program) (B n : Nat) : Prop := ∀ F jump s d, leave C P n F jump s = some d → ∀ c tm df rd todo (u : Up) m V, FOk P B c F s tm df rd [] → u.isDfd = F.dfd → PanM V s.pan m → Pans c V s.pan → (∀ j, jump = some j → jumpOk j = true) → ∀ K, KOk C F K c →
    ((jump = none ∨ jump = some .ret) → ∀ cs w, step P (lone (frm F tm todo df .run u none) cs w) = .next (lone (frm F tm todo df .returning u none) cs w)) →
    (∀ b cs w v w', (Instr.endRound b jump).run P w = .ok v w' → (stepG P true { frame := frm F tm todo df .run u (some b), callers := cs, status := .running, dying := none } w).bare = (doReturn P true (frm F tm todo df .run u (some b)) cs none v w').bare) →
    Fin P B K F.base c d (frm F tm todo df .run u rd) u m s.pan V

theorem leaveOk {n : Nat} (ihU : UnwOk C P B n) : LeaveOk C P B (n + 1) := by
  intro F jump s d h c tm df rd todo u m V f hu hm hp hj K hK h1 h2
  exact leave_ok ihU h f hu hm hp hK hj h1 h2

theorem exec_ok (ok : Ok C P) {n : Nat} (ihE : ExecOk C P B n) (ihE' : ∀ n', n = n' + 1 → ExecOk C P B n') (ihU : UnwOk C P B n) (ihO : OpsOk C P B n) (ihD : DrawnOk C P B n) (ihL : EndOk C P B n) (ihV : LeaveOk C P B n) (ihC : CallOk C P B n) : ExecOk C P B (n + 1) := by
  intro F todo s d h c tm df rd u m V f hu hm hp K hK
  change Fin P B K F.base c d (frm F tm todo df .run u rd) u m s.pan V
  -- a step of control
  have next : ∀ {todo' : List Item}, exec C P n F todo' s = some d → (∀ cs w, step P (lone (frm F tm todo df .run u rd) cs w) = .next (lone (frm F tm todo' df .run u rd) cs w)) →
      (∀ N, (∀ it ∈ todo, itemOk N it) → ∀ it ∈ todo', itemOk N it) → Fin P B K F.base c d (frm F tm todo df .run u rd) u m s.pan V := by
    intro todo' h' hs hi
    exact Fin.head hK.le (.one (hs _ _)) (TrB.refl _ _ _) ⟨rfl, rfl, rfl⟩ rfl (ihE F todo' s d h' c tm df rd u m V (f.todo fun fn _ h => hi fn.ntmps h) hu hm hp K hK)
  have out : ∀ {jump : Option Code}, leave C P n F jump s = some d → (∀ j, jump = some j → jumpOk j = true) →
      ((jump = none ∨ jump = some .ret) → ∀ cs w, step P (lone (frm F tm todo df .run u none) cs w) = .next (lone (frm F tm todo df .returning u none) cs w)) →
      (∀ b cs w v w', (Instr.endRound b jump).run P w = .ok v w' → (stepG P true { frame := frm F tm todo df .run u (some b), callers := cs, status := .running, dying := none } w).bare = (doReturn P true (frm F tm todo df .run u (some b)) cs none v w').bare) →
      Fin P B K F.base c d (frm F tm todo df .run u rd) u m s.pan V := by
    intro jump h' hj h1 h2
    exact ihV F jump s d h' c tm df rd todo u m V (f.todo fun _ _ _ => by simp) hu hm hp hj K hK h1 h2
  cases todo with
  | nil =>
    simp only [exec] at h
    exact out h (by simp) (fun _ cs w => step_lone_go (by simp [stepG, stepG.exec, frm])) (fun b cs w v w' hr => by simp [stepG, stepG.exec, frm, hr])
  | cons it k =>
    cases it with
    | inBlock id =>
      simp only [exec] at h
      exact next h (fun cs w => st_inBlock) (fun N hall it hi => hall it (by simp [hi]))
    | inLoop x =>
      simp only [exec] at h
      refine next h (fun cs w => st_inLoop) (fun N hall it hi => ?_)
      have hx := hall (.inLoop x) (by simp)
      rcases List.mem_cons.1 hi with rfl | hi
      · exact hx
      · rcases List.mem_cons.1 hi with rfl | hi
        · exact hx
        · exact hall it (by simp [hi])
    | inScope x =>
      simp only [exec] at h
      exact next h (fun cs w => st_inScope) (fun N hall it hi => hall it (by simp [hi]))
    | inRegion _ _ => simp [exec] at h
    | inRangeFunc _ => simp [exec] at h
    | endRangeFunc _ => simp [exec] at h
    | call _ _ _ _ => simp [exec] at h
    | extern _ _ => simp [exec] at h
    | beginRound =>
      simp only [exec] at h
      split at h
      · rename_i l hr
        split at h
        · rename_i r hl
          split at h
          · rename_i hrd
            have hrdd := f.rd
            rw [hr] at hrdd
            cases rd with
            | none => exact hrdd.elim
            | some b =>
              obtain ⟨g1, g2, r0, g3⟩ := hrdd
              rw [← f.hH, g3] at hl
              cases hl
              obtain ⟨o, ho, hro⟩ := f.sim.obj l b g1
              rw [g3] at ho
              cases ho
              obtain ⟨tmps, dd, k1, k2, ⟨fn, k3, k4, k5, k6, k7, k8⟩, k9, x, k10, k11⟩ := hro
              obtain ⟨q1, q2, q3, q4⟩ := set_obj (y := .loop ⟨.busy, r.pending, r.fn, tmps, r.params, r.assign, r.body, dd⟩) (a := .loop { r with state := .busy })
                f.sim f.hb g1 g3 k1 (by simp) (by simp [Kind]) (fun c' hx hy => by
                  obtain ⟨x', k12, k13⟩ := hx.kind _ _ k10
                  exact ⟨tmps, dd, hy, k2.ext hx, ⟨fn, k3, k4, k5, k6, k7, k8⟩, hx.same _ _ x k10 k9 (by rintro _ _ rfl; exact k11), x', k12, k11.trans k13⟩) (fun N hN => hN)
              have hrun := beginRound_run (P := P) k1 hrd q1
              have f2 := (f.todo (k' := k) (fun _ _ hall it hi => hall it (by simp [hi]))).heap q3.ext q2 q4 (H' := s.H.set l (.loop { r with state := .busy })) (by simp only [Cx.wr, f.hH])
              have := ihE F k _ d h _ tm df (some b) u m V f2 hu hm (hp.ext q3.ext) K (hK.tr (q3.below (tb := K)))
              exact Fin.head hK.le (.one (st_beginRound hrun)) q3.below ⟨rfl, rfl, rfl⟩ rfl this
          · cases h
        · cases h
      · cases h
    | code x =>
      cases x with
      | skip =>
        simp only [exec] at h
        exact next h (fun cs w => st_skip) (fun N hall it hi => hall it (by simp [hi]))
      | label l =>
        simp only [exec] at h
        exact next h (fun cs w => st_label) (fun N hall it hi => hall it (by simp [hi]))
      | ret =>
        simp only [exec] at h
        exact out h (by rintro j ⟨⟩; rfl) (fun _ cs w => step_lone_go (by simp [stepG, stepG.exec, frm])) (fun b cs w v w' hr => by simp [stepG, stepG.exec, frm, hr])
      | seq x y =>
        simp only [exec] at h
        refine next h (fun cs w => st_seq) (fun N hall it hi => ?_)
        have hx := hall (.code (.seq x y)) (by simp)
        simp only [itemOk, codeOk, Bool.and_eq_true] at hx
        rcases List.mem_cons.1 hi with rfl | hi
        · exact hx.1
        · rcases List.mem_cons.1 hi with rfl | hi
          · exact hx.2
          · exact hall it (by simp [hi])
      | block id x =>
        simp only [exec] at h
        refine next h (fun cs w => st_block) (fun N hall it hi => ?_)
        have hx := hall (.code (.block id x)) (by simp)
        rcases List.mem_cons.1 hi with rfl | hi
        · exact hx
        · rcases List.mem_cons.1 hi with rfl | hi
          · trivial
          · exact hall it (by simp [hi])
      | loop x =>
        simp only [exec] at h
        cases n with
        | zero => simp [exec] at h
        | succ n' =>
          simp only [exec] at h
          have hall : ∀ fn : Func, (∀ it ∈ Item.code (.loop x) :: k, itemOk fn.ntmps it) → ∀ it ∈ Item.code x :: .inLoop x :: k, itemOk fn.ntmps it := by
            intro fn hall it hi
            have hx := hall (.code (.loop x)) (by simp)
            rcases List.mem_cons.1 hi with rfl | hi
            · exact hx
            · rcases List.mem_cons.1 hi with rfl | hi
              · exact hx
              · exact hall it (by simp [hi])
          exact Fin.head hK.le (.one st_loop) (TrB.refl _ _ _) ⟨rfl, rfl, rfl⟩ rfl (ihE' n' rfl F _ s d h c tm df rd u m V (f.todo fun fn _ h => hall fn h) hu hm hp K hK)
      | scope x =>
        simp only [exec] at h
        refine next h (fun cs w => st_scope) (fun N hall it hi => ?_)
        have hx := hall (.code (.scope x)) (by simp)
        rcases List.mem_cons.1 hi with rfl | hi
        · exact hx
        · rcases List.mem_cons.1 hi with rfl | hi
          · exact hx
          · exact hall it (by simp [hi])
      | cond x y z =>
        simp only [exec] at h
        have hx := rel_opd (a := Act.mk tm df) ok f.sim.glob f.env x
        split at h
        · rename_i hv
          rw [hv] at hx
          simp only [Rel] at hx
          refine next h (fun cs w => by simpa using st_cond (k := k) hx) (fun N hall it hi => ?_)
          have hx := hall (.code (.cond x y z)) (by simp)
          simp only [itemOk, codeOk, Bool.and_eq_true] at hx
          rcases List.mem_cons.1 hi with rfl | hi
          · exact hx.1
          · exact hall it (by simp [hi])
        · rename_i hv
          rw [hv] at hx
          simp only [Rel] at hx
          refine next h (fun cs w => by simpa using st_cond (k := k) hx) (fun N hall it hi => ?_)
          have hx := hall (.code (.cond x y z)) (by simp)
          simp only [itemOk, codeOk, Bool.and_eq_true] at hx
          rcases List.mem_cons.1 hi with rfl | hi
          · exact hx.2
          · exact hall it (by simp [hi])
        · cases h
      | exit id =>
        simp only [exec] at h
        split at h
        · rename_i k' hk
          exact next h (fun cs w => st_exit hk) (fun N hall it hi => exit_items id k k' hk (fun it hi => hall it (by simp [hi])) it hi)
        · rename_i hk
          exact out h (by rintro j ⟨⟩; rfl) (fun hj => by simp at hj) (fun b cs w v w' hr => by simp [stepG, stepG.exec, frm, hr, hk])
      | goto l =>
        simp only [exec] at h
        split at h
        · rename_i k' hk
          exact next h (fun cs w => st_goto hk) (fun N hall it hi => goto_items l k k' hk (fun it hi => hall it (by simp [hi])) it hi)
        · rename_i hk
          exact out h (by rintro j ⟨⟩; rfl) (fun hj => by simp at hj) (fun b cs w v w' hr => by simp [stepG, stepG.exec, frm, hr, hk])
      | refuse why => simp [exec] at h
      | rangeFunc g params assign body => exact rangeFunc_ok ok ihL ihC h f hu hm hp hK
      | region id opl draw =>
        simp only [exec] at h
        split at h
        · cases h
        · rename_i s1 hg
          obtain ⟨c1, f1, hw, ht, hpan, hps⟩ := gc_ok hg f hK
          have hK1 := hK.tr ht
          have hp1 := hps V hp
          obtain ⟨fn, hfn, hsz, hit⟩ := f.fn
          have hdst : ∀ o ∈ opl.toList, dstOk tm.size o := by
            rw [hsz]; exact region_dst (hit (.code (.region id opl draw)) (by simp))
          have fk : FOk P B c1 F s1 tm df rd k := f1.todo (fun _ _ hall it hi => hall it (by simp [hi]))
          have hm1 : PanM V s1.pan m := by rw [hpan]; exact hm
          split at h
          · rename_i hdraw
            subst hdraw
            have fin : ∀ r, drawn C P n F id opl s1 = some r → (∀ s', r = .ok s' → exec C P n F k s' = some d) → (∀ v s', r = .pan v s' → unw C P n F (some (v, false)) s' = some d) → Fin P B K F.base c d (frm F tm (.code (.region id opl true) :: k) df .run u rd) u m s.pan V := by
              intro r hr h h'
              have := ops_then ihE ihU (fr := frm F tm (.code (.region id opl true) :: k) df .run u rd) ⟨rfl, rfl, rfl⟩ hu (ihD F id opl s1 r hr k c1 tm df rd u m V hdst fk hu hm1 hp1) hK1 h h'
              exact Fin.head hK.le (by rw [hw]; exact Steps.refl _ _) ht ⟨rfl, rfl, rfl⟩ (by rw [hpan]) this
            split at h
            · rename_i s' hr; exact fin _ hr (fun _ e => by cases e; exact h) (fun _ _ e => by cases e)
            · rename_i v s' hr; exact fin _ hr (fun _ e => by cases e) (fun _ _ e => by cases e; exact h)
            · cases h
          · rename_i hdraw
            have hdraw : draw = false := by simpa using hdraw
            subst hdraw
            have fin : ∀ r, ops C P n F opl.toList opl.toList s1 = some r → (∀ s', r = .ok s' → exec C P n F k s' = some d) → (∀ v s', r = .pan v s' → unw C P n F (some (v, false)) s' = some d) → Fin P B K F.base c d (frm F tm (.code (.region id opl false) :: k) df .run u rd) u m s.pan V := by
              intro r hr h h'
              have := ops_then ihE ihU (fr := frm F tm (.inRegion opl (List.range' 0 (opl.size - 0)) :: k) df .run u rd) ⟨rfl, rfl, rfl⟩ hu (ihO F _ _ s1 r hr opl 0 k c1 tm df rd u m V rfl rfl hdst fk hu hm1 hp1) hK1 h h'
              exact Fin.head hK.le (fr1 := frm F tm (.inRegion opl (List.range' 0 (opl.size - 0)) :: k) df .run u rd) (m1 := m) (p1 := s1.pan) (by rw [hw]; exact .one st_region) ht ⟨rfl, rfl, rfl⟩ (by rw [hpan]) this
            split at h
            · split at h
              rotate_left
              · cases h
              rename_i l hnx
              obtain ⟨hsz, s', hs', c2, tm2, e1, e2, e3, e4, e5⟩ := next_ok ok hnx fk hdst u m
              have h := (oneOf_some.1 h).2 _ (List.mem_map_of_mem hs')
              have hps2 : Pans c2 V s'.pan := by rw [e2]; exact hp1.ext e5.ext
              have fin2 : ∀ r, ops C P n F opl.toList opl.toList.tail s' = some r → (∀ s'', r = .ok s'' → exec C P n F k s'' = some d) → (∀ v s'', r = .pan v s'' → unw C P n F (some (v, false)) s'' = some d) → Fin P B K F.base c d (frm F tm (.code (.region id opl false) :: k) df .run u rd) u m s.pan V := by
                intro r hr h h'
                have := ops_then ihE ihU (fr := frm F tm2 (.inRegion opl (List.range' 1 (opl.size - 1)) :: k) df .run u rd) ⟨rfl, rfl, rfl⟩ hu (ihO F _ _ s' r hr opl 1 k c2 tm2 df rd u m V rfl (by simp) (fun o ho => e1 ▸ hdst o ho) e4 hu (by rw [e2]; exact hm1) hps2) (hK1.tr (e5.below (tb := K))) h h'
                exact Fin.head hK.le (fr1 := frm F tm2 (.inRegion opl (List.range' 1 (opl.size - 1)) :: k) df .run u rd) (m1 := m) (p1 := s'.pan) (by rw [hw] at e3; exact .head st_region (.one e3)) (ht.trans hK.le e5.below) ⟨rfl, rfl, rfl⟩ (by rw [e2, hpan]) this
              split at h
              · rename_i s'' hr; exact fin2 _ hr (fun _ e => by cases e; exact h) (fun _ _ e => by cases e)
              · rename_i v s'' hr; exact fin2 _ hr (fun _ e => by cases e) (fun _ _ e => by cases e; exact h)
              · cases h
            split at h
            · rename_i s' hr; exact fin _ hr (fun _ e => by cases e; exact h) (fun _ _ e => by cases e)
            · rename_i v s' hr; exact fin _ hr (fun _ e => by cases e) (fun _ _ e => by cases e; exact h)
            · cases h

def All (C : Cfg) (P : Program) (B n : Nat) : Prop := ExecOk C P B n ∧ UnwOk C P B n ∧ OpsOk C P B n ∧ DrawnOk C P B n ∧ EndOk C P B n ∧ LeaveOk C P B n ∧ CallOk C P B n ∧ CallFOk C P B n ∧ CallBOk C P B n

theorem all_of (ok : Ok C P) (hD : ∀ n, (∀ m, m < n → CallOk C P B m) → DrawnOk C P B n) : ∀ n, All C P B n := by
  intro n
  induction n using Nat.strongRecOn with
  | _ n ih =>
    cases n with
    | zero =>
      refine ⟨?_, ?_, ?_, hD 0 (by simp), ?_, ?_, ?_, ?_, ?_⟩
      · intro F todo s d h; simp [exec] at h
      · intro F mode s d h; simp [unw] at h
      · intro F all rest s r h; simp [ops] at h
      · intro F k L s1 d1 d h; simp [endLoop] at h
      · intro F jump s d h; simp [leave] at h
      · intro dfd f x k H pan d base h; simp [callV] at h
      · intro dfd g x H pan d h; simp [callF] at h
      · intro g x H d base h; simp [callB] at h
    | succ n =>
      obtain ⟨h1, h2, h3, h4, h5, h6, h7, h8, h9⟩ := ih n (Nat.lt_succ_self n)
      refine ⟨exec_ok ok h1 (fun n' e => (ih n' (by omega)).1) h2 h3 h4 h5 h6 h7, unw_ok ok h7 h2, ?_, ?_, range_ok h1 h2, leaveOk h2, ?_, callF_ok ok h1, callB_ok ok h1⟩
      · intro F all rest s r h opl i k c tm df rd u m V hall hrest hdst f hu hm hp
        exact ops_ok ok h7 h3 h opl i k c tm df rd u m V hall hrest hdst f hu hm hp
      · exact hD (n + 1) (fun m hm => (ih m hm).2.2.2.2.2.2.1)
      · intro dfd f x k H pan d base h c t u m V hH hs hb hB hr hu hm hp hpn
        exact callV_ok ok h8 h9 h1 dfd f x k H pan d base h c t u m V hH hs hb hB hr hu hm hp hpn

end
end Go.Ab
