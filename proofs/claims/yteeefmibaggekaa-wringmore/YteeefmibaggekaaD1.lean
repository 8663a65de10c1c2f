/-
  Code: the evaluator's run is the machine's; the whole of it, but for the regions that ask for an order.
-/
import Derived.Test.YteeefmibaggekaaC9
namespace Go.Ab
set_option linter.unusedSimpArgs false
set_option linter.unusedVariables false

section
variable {C : Cfg} {P : Program} {B : Nat} {F : FI} {c : Cx} {e : Env} {tm : Array Value} {df : List Deferred} {rd : Option Nat} {u : Up} {todo k : List Item} {cs : List Frame} {w : World} {s : St} {d : Done}

def LeaveOk (C : Cfg) (P : Program) (B n : Nat) : Prop := ∀ F jump s d, leave C P n F jump s = some d → ∀ c tm df rd todo (u : Up) m V, FOk P B c F s tm df rd [] → u.isDfd = F.dfd → PanM V s.pan m → Pans c V s.pan → (∀ j, jump = some j → jumpOk j = true) →
    ((jump = none ∨ jump = some .ret) → ∀ cs w, step P (lone (frm F tm todo df .run u none) cs w) = .next (lone (frm F tm todo df .returning u none) cs w)) →
    (∀ b cs w v w', (Instr.endRound b jump).run P w = .ok v w' → (stepG P true { frame := frm F tm todo df .run u (some b), callers := cs, status := .running, dying := none } w).bare = (doReturn P true (frm F tm todo df .run u (some b)) cs none v w').bare) →
    Fin P B F.base F.base c d (frm F tm todo df .run u rd) u m s.pan V

theorem leaveOk {n : Nat} (ihU : UnwOk C P B n) : LeaveOk C P B (n + 1) := by
  intro F jump s d h c tm df rd todo u m V f hu hm hp hj h1 h2
  exact leave_ok ihU h f hu hm hp hj h1 h2

theorem exec_ok (ok : Ok C P) {n : Nat} (ihE : ExecOk C P B n) (ihE' : ∀ n', n = n' + 1 → ExecOk C P B n') (ihU : UnwOk C P B n) (ihO : OpsOk C P B n) (ihD : DrawnOk C P B n) (ihL : EndOk C P B n) (ihV : LeaveOk C P B n) (ihC : CallOk C P B n) : ExecOk C P B (n + 1) := by
  intro F todo s d h c tm df rd u m V f hu hm hp
  change Fin P B F.base F.base c d (frm F tm todo df .run u rd) u m s.pan V
  -- a step of control
  have next : ∀ {todo' : List Item}, exec C P n F todo' s = some d → (∀ cs w, step P (lone (frm F tm todo df .run u rd) cs w) = .next (lone (frm F tm todo' df .run u rd) cs w)) →
      (∀ N, (∀ it ∈ todo, itemOk N it) → ∀ it ∈ todo', itemOk N it) → Fin P B F.base F.base c d (frm F tm todo df .run u rd) u m s.pan V := by
    intro todo' h' hs hi
    exact Fin.head (.one (hs _ _)) (TrB.refl _ _) ⟨rfl, rfl, rfl⟩ rfl (ihE F todo' s d h' c tm df rd u m V (f.todo fun fn _ h => hi fn.ntmps h) hu hm hp)
  have out : ∀ {jump : Option Code}, leave C P n F jump s = some d → (∀ j, jump = some j → jumpOk j = true) →
      ((jump = none ∨ jump = some .ret) → ∀ cs w, step P (lone (frm F tm todo df .run u none) cs w) = .next (lone (frm F tm todo df .returning u none) cs w)) →
      (∀ b cs w v w', (Instr.endRound b jump).run P w = .ok v w' → (stepG P true { frame := frm F tm todo df .run u (some b), callers := cs, status := .running, dying := none } w).bare = (doReturn P true (frm F tm todo df .run u (some b)) cs none v w').bare) →
      Fin P B F.base F.base c d (frm F tm todo df .run u rd) u m s.pan V := by
    intro jump h' hj h1 h2
    exact ihV F jump s d h' c tm df rd todo u m V (f.todo fun _ _ _ => by simp) hu hm hp hj h1 h2
  cases todo with
  | nil =>
    simp only [exec] at h
    exact out h (by simp) (fun _ cs w => step_lone_go (by simp [stepG, stepG.exec, frm])) (fun b cs w v w' hr => by simp [stepG, stepG.exec, frm, hr])
  | cons it k =>
    cases it with
    | inBlock id =>
      simp only [exec] at h
      exact next h (fun cs w => st_inBlock) (fun N hall it hi => hall it (by simp [hi]))
    | inLoop x =>
      simp only [exec] at h
      refine next h (fun cs w => st_inLoop) (fun N hall it hi => ?_)
      have hx := hall (.inLoop x) (by simp)
      rcases List.mem_cons.1 hi with rfl | hi
      · exact hx
      · rcases List.mem_cons.1 hi with rfl | hi
        · exact hx
        · exact hall it (by simp [hi])
    | inScope x =>
      simp only [exec] at h
      exact next h (fun cs w => st_inScope) (fun N hall it hi => hall it (by simp [hi]))
    | inRegion _ _ => simp [exec] at h
    | inRangeFunc _ => simp [exec] at h
    | endRangeFunc _ => simp [exec] at h
    | call _ _ _ _ => simp [exec] at h
    | extern _ _ => simp [exec] at h
    | beginRound =>
      simp only [exec] at h
      split at h
      · rename_i l hr
        split at h
        · rename_i r hl
          split at h
          · rename_i hrd
            have hrdd := f.rd
            rw [hr] at hrdd
            cases rd with
            | none => exact hrdd.elim
            | some b =>
              obtain ⟨g1, g2, r0, g3⟩ := hrdd
              rw [← f.hH, g3] at hl
              cases hl
              obtain ⟨o, ho, hro⟩ := f.sim.obj l b g1
              rw [g3] at ho
              cases ho
              obtain ⟨tmps, dd, k1, k2, ⟨fn, k3, k4, k5, k6, k7, k8⟩, k9, x, k10, k11⟩ := hro
              obtain ⟨q1, q2, q3, q4⟩ := set_obj (y := .loop ⟨.busy, r.pending, r.fn, tmps, r.params, r.assign, r.body, dd⟩) (a := .loop { r with state := .busy })
                f.sim f.hb g1 g3 k1 (by simp) (by simp [Kind]) (fun c' hx hy => by
                  obtain ⟨x', k12, k13⟩ := hx.kind _ _ k10
                  exact ⟨tmps, dd, hy, k2.ext hx, ⟨fn, k3, k4, k5, k6, k7, k8⟩, hx.same _ _ x k10 k9 (by rintro _ _ rfl; exact k11), x', k12, k11.trans k13⟩) (fun N hN => hN)
              have hrun := beginRound_run (P := P) k1 hrd q1
              have f2 := (f.todo (k' := k) (fun _ _ hall it hi => hall it (by simp [hi]))).heap q3.ext q2 q4 (H' := s.H.set l (.loop { r with state := .busy })) (by simp only [Cx.wr, f.hH])
              have := ihE F k _ d h _ tm df (some b) u m V f2 hu hm (hp.ext q3.ext)
              exact Fin.head (.one (st_beginRound hrun)) q3.below ⟨rfl, rfl, rfl⟩ rfl this
          · cases h
        · cases h
      · cases h
    | code x =>
      cases x with
      | skip =>
        simp only [exec] at h
        exact next h (fun cs w => st_skip) (fun N hall it hi => hall it (by simp [hi]))
      | label l =>
        simp only [exec] at h
        exact next h (fun cs w => st_label) (fun N hall it hi => hall it (by simp [hi]))
      | ret =>
        simp only [exec] at h
        exact out h (by rintro j ⟨⟩; rfl) (fun _ cs w => step_lone_go (by simp [stepG, stepG.exec, frm])) (fun b cs w v w' hr => by simp [stepG, stepG.exec, frm, hr])
      | seq x y =>
        simp only [exec] at h
        refine next h (fun cs w => st_seq) (fun N hall it hi => ?_)
        have hx := hall (.code (.seq x y)) (by simp)
        simp only [itemOk, codeOk, Bool.and_eq_true] at hx
        rcases List.mem_cons.1 hi with rfl | hi
        · exact hx.1
        · rcases List.mem_cons.1 hi with rfl | hi
          · exact hx.2
          · exact hall it (by simp [hi])
      | block id x =>
        simp only [exec] at h
        refine next h (fun cs w => st_block) (fun N hall it hi => ?_)
        have hx := hall (.code (.block id x)) (by simp)
        rcases List.mem_cons.1 hi with rfl | hi
        · exact hx
        · rcases List.mem_cons.1 hi with rfl | hi
          · trivial
          · exact hall it (by simp [hi])
      | loop x =>
        simp only [exec] at h
        cases n with
        | zero => simp [exec] at h
        | succ n' =>
          simp only [exec] at h
          have hall : ∀ fn : Func, (∀ it ∈ Item.code (.loop x) :: k, itemOk fn.ntmps it) → ∀ it ∈ Item.code x :: .inLoop x :: k, itemOk fn.ntmps it := by
            intro fn hall it hi
            have hx := hall (.code (.loop x)) (by simp)
            rcases List.mem_cons.1 hi with rfl | hi
            · exact hx
            · rcases List.mem_cons.1 hi with rfl | hi
              · exact hx
              · exact hall it (by simp [hi])
          exact Fin.head (.one st_loop) (TrB.refl _ _) ⟨rfl, rfl, rfl⟩ rfl (ihE' n' rfl F _ s d h c tm df rd u m V (f.todo fun fn _ h => hall fn h) hu hm hp)
      | scope x =>
        simp only [exec] at h
        refine next h (fun cs w => st_scope) (fun N hall it hi => ?_)
        have hx := hall (.code (.scope x)) (by simp)
        rcases List.mem_cons.1 hi with rfl | hi
        · exact hx
        · rcases List.mem_cons.1 hi with rfl | hi
          · exact hx
          · exact hall it (by simp [hi])
      | cond x y z =>
        simp only [exec] at h
        have hx := rel_opd (a := Act.mk tm df) ok f.sim.glob f.env x
        split at h
        · rename_i hv
          rw [hv] at hx
          simp only [Rel] at hx
          refine next h (fun cs w => by simpa using st_cond (k := k) hx) (fun N hall it hi => ?_)
          have hx := hall (.code (.cond x y z)) (by simp)
          simp only [itemOk, codeOk, Bool.and_eq_true] at hx
          rcases List.mem_cons.1 hi with rfl | hi
          · exact hx.1
          · exact hall it (by simp [hi])
        · rename_i hv
          rw [hv] at hx
          simp only [Rel] at hx
          refine next h (fun cs w => by simpa using st_cond (k := k) hx) (fun N hall it hi => ?_)
          have hx := hall (.code (.cond x y z)) (by simp)
          simp only [itemOk, codeOk, Bool.and_eq_true] at hx
          rcases List.mem_cons.1 hi with rfl | hi
          · exact hx.2
          · exact hall it (by simp [hi])
        · cases h
      | exit id =>
        simp only [exec] at h
        split at h
        · rename_i k' hk
          exact next h (fun cs w => st_exit hk) (fun N hall it hi => exit_items id k k' hk (fun it hi => hall it (by simp [hi])) it hi)
        · rename_i hk
          exact out h (by rintro j ⟨⟩; rfl) (fun hj => by simp at hj) (fun b cs w v w' hr => by simp [stepG, stepG.exec, frm, hr, hk])
      | goto l =>
        simp only [exec] at h
        split at h
        · rename_i k' hk
          exact next h (fun cs w => st_goto hk) (fun N hall it hi => goto_items l k k' hk (fun it hi => hall it (by simp [hi])) it hi)
        · rename_i hk
          exact out h (by rintro j ⟨⟩; rfl) (fun hj => by simp at hj) (fun b cs w v w' hr => by simp [stepG, stepG.exec, frm, hr, hk])
      | refuse why => simp [exec] at h
      | rangeFunc g params assign body => exact rangeFunc_ok ok ihL ihC h f hu hm hp
      | region id opl draw =>
        simp only [exec] at h
        split at h
        · cases h
        · rename_i s1 hg
          obtain ⟨c1, f1, hw, ht, hpan, hps⟩ := gc_ok hg f
          have hp1 := hps V hp
          obtain ⟨fn, hfn, hsz, hit⟩ := f.fn
          have hdst : ∀ o ∈ opl.toList, dstOk tm.size o := by
            rw [hsz]; exact region_dst (hit (.code (.region id opl draw)) (by simp))
          have fk : FOk P B c1 F s1 tm df rd k := f1.todo (fun _ _ hall it hi => hall it (by simp [hi]))
          have hm1 : PanM V s1.pan m := by rw [hpan]; exact hm
          split at h
          · rename_i hdraw
            subst hdraw
            have fin : ∀ r, drawn C P n F id opl s1 = some r → (∀ s', r = .ok s' → exec C P n F k s' = some d) → (∀ v s', r = .pan v s' → unw C P n F (some (v, false)) s' = some d) → Fin P B F.base F.base c d (frm F tm (.code (.region id opl true) :: k) df .run u rd) u m s.pan V := by
              intro r hr h h'
              have := ops_then ihE ihU (fr := frm F tm (.code (.region id opl true) :: k) df .run u rd) ⟨rfl, rfl, rfl⟩ hu (ihD F id opl s1 r hr k c1 tm df rd u m V hdst fk hu hm1 hp1) h h'
              exact Fin.head (by rw [hw]; exact Steps.refl _ _) ht ⟨rfl, rfl, rfl⟩ (by rw [hpan]) this
            split at h
            · rename_i s' hr; exact fin _ hr (fun _ e => by cases e; exact h) (fun _ _ e => by cases e)
            · rename_i v s' hr; exact fin _ hr (fun _ e => by cases e) (fun _ _ e => by cases e; exact h)
            · cases h
          · rename_i hdraw
            have hdraw : draw = false := by simpa using hdraw
            subst hdraw
            have fin : ∀ r, ops C P n F opl.toList opl.toList s1 = some r → (∀ s', r = .ok s' → exec C P n F k s' = some d) → (∀ v s', r = .pan v s' → unw C P n F (some (v, false)) s' = some d) → Fin P B F.base F.base c d (frm F tm (.code (.region id opl false) :: k) df .run u rd) u m s.pan V := by
              intro r hr h h'
              have := ops_then ihE ihU (fr := frm F tm (.inRegion opl (List.range' 0 (opl.size - 0)) :: k) df .run u rd) ⟨rfl, rfl, rfl⟩ hu (ihO F _ _ s1 r hr opl 0 k c1 tm df rd u m V rfl rfl hdst fk hu hm1 hp1) h h'
              exact Fin.head (fr1 := frm F tm (.inRegion opl (List.range' 0 (opl.size - 0)) :: k) df .run u rd) (m1 := m) (p1 := s1.pan) (by rw [hw]; exact .one st_region) ht ⟨rfl, rfl, rfl⟩ (by rw [hpan]) this
            split at h
            · rename_i s' hr; exact fin _ hr (fun _ e => by cases e; exact h) (fun _ _ e => by cases e)
            · rename_i v s' hr; exact fin _ hr (fun _ e => by cases e) (fun _ _ e => by cases e; exact h)
            · cases h

def All (C : Cfg) (P : Program) (B n : Nat) : Prop := ExecOk C P B n ∧ UnwOk C P B n ∧ OpsOk C P B n ∧ DrawnOk C P B n ∧ EndOk C P B n ∧ LeaveOk C P B n ∧ CallOk C P B n ∧ CallFOk C P B n

theorem all_of (ok : Ok C P) (hD : ∀ n, (∀ m, m < n → CallOk C P B m) → DrawnOk C P B n) : ∀ n, All C P B n := by
  intro n
  induction n using Nat.strongRecOn with
  | _ n ih =>
    cases n with
    | zero =>
      refine ⟨?_, ?_, ?_, hD 0 (by simp), ?_, ?_, ?_, ?_⟩
      · intro F todo s d h; simp [exec] at h
      · intro F mode s d h; simp [unw] at h
      · intro F all rest s r h; simp [ops] at h
      · intro F k L s1 d1 d h; simp [endLoop] at h
      · intro F jump s d h; simp [leave] at h
      · intro dfd f x k H pan d h; simp [callV] at h
      · intro dfd g x H pan d h; simp [callF] at h
    | succ n =>
      obtain ⟨h1, h2, h3, h4, h5, h6, h7, h8⟩ := ih n (Nat.lt_succ_self n)
      refine ⟨exec_ok ok h1 (fun n' e => (ih n' (by omega)).1) h2 h3 h4 h5 h6 h7, unw_ok ok h7 h2, ?_, ?_, range_ok h1 h2, leaveOk h2, ?_, callF_ok ok h1⟩
      · intro F all rest s r h opl i k c tm df rd u m V hall hrest hdst f hu hm hp
        exact ops_ok ok h7 h3 h opl i k c tm df rd u m V hall hrest hdst f hu hm hp
      · exact hD (n + 1) (fun m hm => (ih m hm).2.2.2.2.2.2.1)
      · intro dfd f x k H pan d h base c t u m V hH hs hb hB hr hu hm hp hpn
        exact callV_ok ok h8 h1 dfd f x k H pan d h base c t u m V hH hs hb hB hr hu hm hp hpn

end
end Go.Ab
