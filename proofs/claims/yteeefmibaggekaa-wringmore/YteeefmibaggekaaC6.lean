/-
  Calls: the evaluator's are the machine's.
-/
import Derived.Test.YteeefmibaggekaaC5
namespace Go.Ab
set_option linter.unusedSimpArgs false
set_option linter.unusedVariables false

section
variable {C : Cfg} {P : Program} {B : Nat} {F : FI} {c : Cx} {tm : Array Value}

theorem ofArgs_get : ∀ (args : List AV) (i k : Nat), (Env.ofArgs i args).get k = if i ≤ k ∧ k < i + args.length then args.getD (k - i) .undef else .undef
  | [], i, k => by
    simp only [Env.ofArgs, Env.get, List.length_nil]
    rw [if_neg (by omega)]
  | v :: r, i, k => by
    simp only [Env.ofArgs, Env.get, ofArgs_get r (i + 1) k, List.length_cons]
    by_cases h : i = k
    · subst h
      rw [if_pos rfl, if_pos (by omega)]
      simp
    · rw [if_neg h]
      by_cases h2 : i + 1 ≤ k ∧ k < i + 1 + r.length
      · rw [if_pos h2, if_pos (by omega)]
        obtain ⟨j, rfl⟩ : ∃ j, k = i + 1 + j := ⟨k - (i + 1), by omega⟩
        rw [show i + 1 + j - (i + 1) = j by omega, show i + 1 + j - i = j + 1 by omega]
        simp
      · rw [if_neg h2, if_neg (by omega)]

theorem args_env {args : List AV} {vs : List Value} (r : RelL c args vs) (n : Nat) : RelEnv c (Env.ofArgs 0 args) (vs.toArray ++ Array.replicate n Go.undef) := by
  intro k
  rw [ofArgs_get]
  split
  · rename_i h
    have hk : k < args.length := by omega
    obtain ⟨y, hy, hr⟩ := RelL.get r (List.getElem?_eq_getElem hk)
    have hl := r.length
    rw [Array.getD_eq_getD_getElem?, Array.getElem?_append_left (by simp; omega), List.getElem?_toArray, hy]
    simpa [List.getD_eq_getElem?_getD, List.getElem?_eq_getElem hk] using hr
  · simp only [Rel]

theorem ofArgs_lt {N : Nat} : ∀ (args : List AV) (i : Nat), ltL N args = true → envLt N (Env.ofArgs i args) = true
  | [], _, _ => rfl
  | v :: r, i, h => by
    simp only [ltL, Bool.and_eq_true] at h
    simp only [Env.ofArgs, envLt, Bool.and_eq_true]
    exact ⟨h.1, ofArgs_lt r (i + 1) h.2⟩

theorem params_lt {N : Nat} : ∀ (ts : List Tmp) (args : List AV) (e : Env), ltL N args = true → envLt N e = true → envLt N (Env.params e ts args) = true
  | [], _, _, _, he => by simpa [Env.params] using he
  | _ :: _, [], _, _, he => by simpa [Env.params] using he
  | t :: ts, v :: args, e, h, he => by
    simp only [ltL, Bool.and_eq_true] at h
    simp only [Env.params]
    exact params_lt ts args _ h.2 (by simp only [envLt, Bool.and_eq_true]; exact ⟨h.1, he⟩)

theorem callF_inv {n : Nat} {dfd : Bool} {g : FuncId} {x : List AV} {H : Heap} {pan : Option (AV × Bool)} {d : Done} (h : callF C P n dfd g x H pan = some d) : ∃ fn b, C.fns g = some fn ∧ fn.body = some b ∧ x.length ≤ fn.ntmps := by
  cases n with
  | zero => simp [callF] at h
  | succ n =>
    simp only [callF] at h
    split at h
    · cases h
    · rename_i fn hfn
      split at h
      · cases h
      · rename_i b hb
        split at h
        · rename_i hl
          exact ⟨fn, b, hfn, hb, hl⟩
        · cases h

theorem callF_ok (ok : Ok C P) {n : Nat} (ih : ExecOk C P B n) : CallFOk C P B (n + 1) := by
  intro dfd g x H pan d h base c vs u m V hH hs hb hB hr hu hm hp
  simp only [callF] at h
  split at h
  · cases h
  · rename_i fn hfn
    split at h
    · cases h
    · rename_i b hbody
      split at h
      · rename_i hl
        obtain ⟨d0, hd0, rfl⟩ := Option.map_eq_some_iff.1 h
        obtain ⟨h1, h2, h3⟩ := ok.fns _ _ hfn
        subst hH
        refine fin_n _ _ hb ?_
        have hlen := hr.length
        have hfr : Frame.enter P g vs.toArray u.kind = { fn := g, tmps := vs.toArray ++ Array.replicate (fn.ntmps - vs.length) Go.undef, todo := [.code b], defers := [], mode := .run, kind := u.kind, roundOf := none } := by
          simp [Frame.enter, h1, hbody]
        rw [hfr]
        refine ih ⟨g, none, dfd, c.H.length⟩ _ _ _ hd0 c _ [] none u m V ?_ hu hm hp
        exact {
          hH := rfl
          sim := hs
          hb := ⟨Nat.le_refl _, fun l o _ ho => hb.all l o ho, hb.all⟩
          lo := hB
          env := args_env hr _
          fn := ⟨fn, h1, by simp; omega, by simpa [itemOk] using h3 b hbody⟩
          dfr := by simp [RelD]
          rd := trivial
          pan := fun v r e => Rel.lt _ _ (hp v r e)
          elt := ofArgs_lt _ _ (RelL.lt _ _ hr) }
      · cases h

theorem params_env : ∀ (ts : List Tmp) {args : List AV} {vs : List Value} {e : Env} {tm : Array Value}, RelL c args vs → RelEnv c e tm → (∀ t ∈ ts, t < tm.size) → args.length = ts.length →
    RelEnv c (Env.params e ts args) ((ts.zip vs).foldl (fun tmps (x : Tmp × Value) => tmps.setIfInBounds x.1 x.2) tm) ∧ ((ts.zip vs).foldl (fun tmps (x : Tmp × Value) => tmps.setIfInBounds x.1 x.2) tm).size = tm.size
  | [], args, vs, e, tm, _, he, _, _ => by cases args <;> simpa [Env.params] using he
  | t :: ts, [], vs, e, tm, _, _, _, hl => by simp at hl
  | t :: ts, v :: args, vs, e, tm, r, he, ht, hl => by
    simp only [RelL] at r
    obtain ⟨y, s, rfl, hy, hs⟩ := r
    simp only [Env.params, List.zip_cons_cons, List.foldl_cons]
    have h1 : RelEnv c ((t, v) :: e) (tm.setIfInBounds t y) := by
      have := put_env (dst := some t) he hy (fun d hd => by cases hd; exact ht t (by simp))
      simpa [Env.put, putT] using this
    have := params_env (args := args) (vs := s) ts hs h1 (fun t' h' => by simpa using ht t' (by simp [h'])) (by simpa using hl)
    simpa using this

theorem extract_tail {x : Array Value} {y : Value} {s : List Value} (h : x.toList = y :: s) : (x.extract 1 x.size).toList = s := by
  have hl : x.size = s.length + 1 := by rw [← Array.length_toList, h]; rfl
  simp [h, hl]

theorem getLoop_run {w : World} {b : Nat} {r : Loop} (h : w.heap[b]? = some (.loop r)) : (Instr.getLoop b).run P w = .ok r w := by
  simp [Instr.getLoop, getObj, Sem.run, h]

theorem callV_ok (ok : Ok C P) {n : Nat} (ihF : CallFOk C P B n) (ihE : ExecOk C P B n) (dfd : Bool) (f : Fn) (x k : List AV) (H : Heap) (pan : Option (AV × Bool)) (d : Done) (h : callV C P (n + 1) dfd f x k H pan = some d)
    (base : Nat) (c : Cx) (t : Deferred) (u : Up) (m : FrameMode) (V : Value) (hH : c.H = H) (hs : Sim P B c) (hb : HB base c.H) (hB : B ≤ c.w.heap.size) (hr : RelT c f x k t) (hu : u.isDfd = dfd) (hm : PanM V pan m) (hp : Pans c V pan) (hpn : dfd = false → pan = none) :
    ∃ nx fr, (invoke t.target t.args).run P c.w = .ok nx c.w ∧ Entry P nx u.kind fr ∧ Fin P B c.H.length base c d fr u m pan V := by
  obtain ⟨g, k', htg, hf, hx, hk⟩ := hr
  rw [htg]
  have enter : ∀ {g0 : FuncId} {x0 : List AV} {vs : Array Value}, callF C P n dfd g0 x0 H pan = some d → RelL c x0 vs.toList → ∃ fr, Entry P (.enter g0 vs) u.kind fr ∧ Fin P B c.H.length base c d fr u m pan V := by
    intro g0 x0 vs h0 hr0
    exact ⟨_, .inl ⟨_, _, rfl, rfl⟩, by simpa using ihF _ _ _ _ _ _ h0 base c vs.toList u m V hH hs hb hB hr0 hu hm hp⟩
  have facts : ∀ {g0 : FuncId} {x0 : List AV}, callF C P n dfd g0 x0 H pan = some d → ∃ fn : Func, P.funcs[g0]? = some fn ∧ fn.name ≠ "runtime.NumGoroutine" ∧ fn.body.isSome = true := by
    intro g0 x0 h0
    obtain ⟨fn, b, h1, h2, _⟩ := callF_inv h0
    obtain ⟨h3, h4, _⟩ := ok.fns _ _ h1
    exact ⟨fn, h3, h4, by rw [h2]; rfl⟩
  cases f with
  | func g0 =>
    simp only [RelFn] at hf
    subst hf
    simp only [callV] at h
    obtain ⟨fn, h1, h2, h3⟩ := facts h
    obtain ⟨fr, h4, h5⟩ := enter (vs := t.args ++ k') h (by simpa using hx.append hk)
    exact ⟨_, fr, by simp only [invoke]; exact callFunc_run h1 h2 h3 _ _, h4, h5⟩
  | method name =>
    simp only [RelFn] at hf
    subst hf
    simp only [callV] at h
    split at h
    · rename_i ty v rest
      split at h
      · rename_i g0 hg
        obtain ⟨fn, h1, h2, h3⟩ := facts h
        simp only [RelL] at hx
        obtain ⟨y, s, hts, hy, hrest⟩ := hx
        simp only [Rel] at hy
        obtain ⟨z, rfl, hz⟩ := hy
        have e0 : t.args[0]? = some (.iface ty z) := by rw [← Array.getElem?_toList, hts]; rfl
        have e1 := extract_tail hts
        obtain ⟨fr, h4, h5⟩ := enter (vs := #[z] ++ t.args.extract 1 t.args.size) h (by
          rw [Array.toList_append, e1]
          simp only [List.cons_append, List.nil_append, RelL]
          exact ⟨z, s, rfl, hz, hrest⟩)
        refine ⟨_, fr, ?_, h4, h5⟩
        simp only [invoke, e0]
        exact callMethod_run ok hg h1 h2 h3 _ _ _
      · cases h
    · cases h
  | methodOf ty name =>
    simp only [RelFn] at hf
    subst hf
    simp only [callV] at h
    split at h
    · rename_i v rest
      simp only [RelL] at hx
      obtain ⟨y, s, hts, hy, hrest⟩ := hx
      have e0 : t.args[0]? = some y := by rw [← Array.getElem?_toList, hts]; rfl
      have e1 := extract_tail hts
      split at h
      · rename_i yt hty
        obtain ⟨_, ud, _, hud, hdd, _⟩ := tyOf_inv (ok.ty _ _ hty)
        have plain : (∀ ms, ud ≠ .interface ms) → ∀ {g0 : FuncId}, C.meth ty name = some g0 → callF C P n dfd g0 (v :: rest) H pan = some d →
            ∃ nx fr, (invoke (.fn (.methodOf ty name) k') t.args).run P c.w = .ok nx c.w ∧ Entry P nx u.kind fr ∧ Fin P B c.H.length base c d fr u m pan V := by
          intro hni g0 hg h0
          obtain ⟨fn, h1, h2, h3⟩ := facts h0
          obtain ⟨fr, h4, h5⟩ := enter (vs := #[y] ++ t.args.extract 1 t.args.size) h0 (by
            rw [Array.toList_append, e1]
            simp only [List.cons_append, List.nil_append, RelL]
            exact ⟨y, s, rfl, hy, hrest⟩)
          refine ⟨_, fr, ?_, h4, h5⟩
          simp only [invoke, e0, Sem.run_bind, run_under hud, Result.andThen_ok]
          cases ud <;> first | (exact absurd rfl (hni _)) | exact callMethod_run ok hg h1 h2 h3 _ _ _
        split at h
        · rename_i hd
          split at h
          · rename_i t' v'
            split at h
            · rename_i g0 hg
              obtain ⟨fn, h1, h2, h3⟩ := facts h
              simp only [Rel] at hy
              obtain ⟨z, rfl, hz⟩ := hy
              rw [hd] at hdd
              obtain ⟨ms, rfl⟩ : ∃ ms, ud = .interface ms := by
                cases ud <;> simp only [tyDesc] at hdd <;> first | (cases hdd; done) | exact ⟨_, rfl⟩
              obtain ⟨fr, h4, h5⟩ := enter (vs := #[z] ++ t.args.extract 1 t.args.size) h (by
                rw [Array.toList_append, e1]
                simp only [List.cons_append, List.nil_append, RelL]
                exact ⟨z, s, rfl, hz, hrest⟩)
              refine ⟨_, fr, ?_, h4, h5⟩
              simp only [invoke, e0, Sem.run_bind, run_under hud, Result.andThen_ok]
              exact callMethod_run ok hg h1 h2 h3 _ _ _
            · cases h
          · cases h
        · rename_i hd
          split at h
          · rename_i g0 hg
            exact plain (by rintro ms rfl; exact hd hdd) hg h
          · cases h
      · cases h
    · cases h
  | yield l =>
    simp only [RelFn] at hf
    obtain ⟨b, hl, ⟨r, hlr⟩, rfl⟩ := hf
    simp only [callV] at h
    split at h
    · cases h
    · rename_i hdf
      have hdf : dfd = false := by simpa using hdf
      subst hH
      rw [hlr] at h
      simp only at h
      split at h
      · rename_i hlen
        obtain ⟨d0, hd0, rfl⟩ := Option.map_eq_some_iff.1 h
        obtain ⟨o, ho, hro⟩ := hs.obj l b hl
        rw [hlr] at ho
        cases ho
        simp only [RelO] at hro
        obtain ⟨tmps, dd, g1, g2, ⟨fn, g3, g4, g5, g6, g7, g8⟩, _⟩ := hro
        obtain ⟨p1, p2⟩ := params_env r.params.toList hx g2 (fun t' h' => by rw [g4]; exact g7 t' (by simpa using h')) (by simpa using hlen)
        have hpn := hpn hdf
        subst hpn
        have hkind : u.kind = .normal := by
          cases u with
          | plain _ => rfl
          | dfd _ _ => rw [hdf] at hu; cases hu
        refine ⟨_, _, ?_, .inr ⟨b, r.fn, _, r.assign, r.body, rfl, rfl⟩, fin_done hb (ihE ⟨r.fn, some l, false, c.H.length⟩ _ _ _ hd0 c ((r.params.toList.zip t.args.toList).foldl (fun tmps (x : Tmp × Value) => tmps.setIfInBounds x.1 x.2) tmps) [] (some b) u m V ?_ (hu.trans hdf) hm hp)⟩
        · have hsz : t.args.size = r.params.size := by
            have := hx.length
            simp only [Array.length_toList] at this
            omega
          simp only [invoke, Instr.yield, Sem.run_bind, getLoop_run g1, Result.andThen_ok, hsz, ne_eq, not_true, if_false, Sem.run_pure]
          rw [← Array.foldl_toList, Array.toList_zip]
        · exact {
            hH := rfl
            sim := hs
            hb := ⟨Nat.le_refl _, fun l o _ ho => hb.all l o ho, hb.all⟩
            lo := hB
            env := p1
            fn := ⟨fn, g3, by rw [p2, g4], by simpa [itemOk] using ⟨g5, g6⟩⟩
            dfr := by simp [RelD]
            rd := ⟨hl, (List.getElem?_eq_some_iff.1 hlr).1, _, hlr⟩
            pan := fun v r e => by cases e
            elt := params_lt _ _ _ (RelL.lt _ _ hx) (by have := hb.all l _ hlr; simp only [AO.lt, Bool.and_eq_true] at this; exact this.1) }
      · cases h
  | via t0 path f0 p0 => simp [callV] at h

end
end Go.Ab
