/-
  Forgetting: at a mark, and behind a call.
-/
import Derived.Test.YtlnfcahmdnnabaaDoorC2
namespace Go.Ab
set_option linter.unusedSimpArgs false
set_option linter.unusedVariables false

section
variable {C : Cfg} {P : Program} {B : Nat} {F : FI} {c : Cx} {e : Env} {a : Act}

theorem keepEnv_get (e : Env) (L : List Nat) (k : Nat) : (keepEnv e L).get k = e.get k ∨ (keepEnv e L).get k = .undef := by
  induction L with
  | nil => exact .inr rfl
  | cons x r ih =>
    simp only [keepEnv, Env.get]
    split
    · rename_i h; subst h; exact .inl rfl
    · exact ih

theorem keepEnv_lt {N : Nat} {e : Env} (h : envLt N e = true) : ∀ L, envLt N (keepEnv e L) = true
  | [] => rfl
  | k :: r => by simp only [keepEnv, envLt, Bool.and_eq_true]; exact ⟨envLt_get h k, keepEnv_lt h r⟩

theorem heapLt_get {N : Nat} : ∀ {H : Heap}, heapLt N H = true → ∀ {l : Nat} {o : AO}, H[l]? = some o → o.lt N = true := fun h => getElem?_of_heapLt h

theorem gc_ok {s s' : St} {id : Nat} {tm : Array Value} {df : List Deferred} {rd : Option Nat} {todo : List Item} (h : gcAt C F id s = some s') (f : FOk P B c F s tm df rd todo) :
    ∃ c', FOk P B c' F s' tm df rd todo ∧ c'.w = c.w ∧ TrB F.base c c' ∧ s'.pan = s.pan ∧ ∀ V, Pans c V s.pan → Pans c' V s'.pan := by
  unfold gcAt at h
  split at h
  · rename_i L m hg
    unfold gcSt at h
    simp only at h
    split at h
    · rename_i hc
      simp only [Bool.and_eq_true] at hc
      obtain ⟨h1, h2, h3⟩ := hc
      cases h
      have hle := f.hb.le
      have hlt : ∀ l o, l < F.base + m → c.H[l]? = some o → o.lt (F.base + m) = true := by
        intro l o hl ho
        by_cases hb : l < F.base
        · exact AO.lt_mono (Nat.le_add_right _ _) (f.hb.old l o hb ho)
        · refine heapLt_get h2 (l := l - F.base) ?_
          rw [List.getElem?_drop, List.getElem?_take, if_pos (by omega), show F.base + (l - F.base) = l by omega, ← f.hH]
          exact ho
      refine ⟨c.drop (F.base + m), ?_, rfl, drop_trb (Nat.le_add_right _ _) c, rfl, fun V hp v r hv => Rel.drop _ _ (hp v r hv) (lt_mono (Nat.le_add_right _ _) _ (f.pan v r hv))⟩
      exact {
        hH := by simp [Cx.drop, f.hH]
        sim := f.sim.drop hlt
        hb := {
          le := by simp [Cx.drop]; omega
          old := fun l o hl ho => by
            simp only [Cx.drop, List.getElem?_take] at ho
            split at ho
            · exact f.hb.old l o hl ho
            · cases ho
          all := fun l o ho => by
            simp only [Cx.drop, List.getElem?_take] at ho
            split at ho
            · rename_i hl
              simp only [Cx.drop, List.length_take]
              by_cases hm : F.base + m ≤ c.H.length
              · rw [Nat.min_eq_left hm]; exact hlt l o hl ho
              · rw [Nat.min_eq_right (by omega)]; exact f.hb.all l o ho
            · cases ho }
        lo := f.lo
        env := fun k => by
          have hk : Rel c ((keepEnv s.env L).get k) (tm.getD k Go.undef) := by
            rcases keepEnv_get s.env L k with h | h <;> rw [h]
            · exact f.env k
            · simp only [Rel]
          exact Rel.drop _ _ hk (envLt_get h1 k)
        fn := f.fn
        dfr := f.dfr.drop h3
        rd := f.rd.drop (Nat.le_add_right _ _)
        pan := f.pan
        elt := by
          simp only [Cx.drop, List.length_take]
          by_cases hm : F.base + m ≤ c.H.length
          · rw [Nat.min_eq_left hm]; exact h1
          · rw [Nat.min_eq_right (by omega)]; exact keepEnv_lt f.elt L }
    · cases h
  · cases h
    exact ⟨c, f, rfl, TrB.refl _ _, rfl, fun V hp => hp⟩

theorem elems_seal {l n : Nat} {xs : List AV} {N : Nat} {V : Value} (hs : Sim P B c) (hl : N ≤ l) (he : elems c.H (.gsl l n) = some xs) (r : Rel c (.gsl l n) V) : Rel (c.drop N) (.sl false xs) V := by
  simp only [elems] at he
  split at he
  · rename_i sz ys hg
    split at he
    · rename_i hn
      cases he
      simp only [Rel] at r
      obtain ⟨ad, cap, sz', xs', rfl, hx, hle, r⟩ := r
      rw [hg] at hx
      cases hx
      rcases r hn with ⟨h1, h2, h3⟩ | ⟨b, cells, T, fr, h1, rfl, h3, h4, h5⟩
      · have hxs := hs.nil _ _ _ hg h1
        subst hxs
        simp only [List.length_nil] at hn
        subst hn
        simp only [Rel]
        exact ⟨ad, cap, rfl, ⟨by simp, by simp⟩, ⟨rfl, by simp⟩, .inl trivial⟩
      · obtain ⟨o, ho, hr⟩ := hs.obj l b h1
        rw [hg] at ho
        cases ho
        simp only [RelO] at hr
        obtain ⟨ys, rest, T', g1, g2, g3, g4, g5⟩ := hr
        obtain ⟨hB, hsz⟩ := hs.lo l b h1
        simp only [Rel]
        refine ⟨_, cap, by rw [hn], ⟨by simp, by omega⟩, ⟨g4, g5⟩, .inr ⟨b, 0, _, ys, rfl, hsz, ?_, RelL.drop _ _ g2 (ltL_mono (Nat.zero_le _) _ g4), g3, ?_⟩⟩
        · rintro ⟨l', hl'⟩
          simp only [Cx.drop] at hl'
          split at hl'
          · rename_i hlt
            have := hs.inj _ _ _ hl' h1
            omega
          · cases hl'
        · intro k hk
          simp only [Cx.drop, World.cell?, g1, Nat.zero_add]
          rw [List.getElem?_toArray, List.getElem?_append_left hk]; rfl
    · cases he
  · cases he

theorem sealG_rel {N : Nat} {v : AV} {V : Value} (hs : Sim P B c) (hv : (sealG c.H N v).lt N = true) (r : Rel c v V) : Rel (c.drop N) (sealG c.H N v) V := by
  unfold sealG at hv ⊢
  split
  · rename_i l n
    simp only at hv
    split
    · rename_i hl
      exact Rel.drop _ _ r (by simpa [AV.lt] using hl)
    · rename_i hl
      rw [if_neg hl] at hv
      cases he : elems c.H (.gsl l n) with
      | some xs => exact elems_seal hs (by omega) he r
      | none =>
        rw [he] at hv
        simp only [AV.lt, decide_eq_true_eq] at hv
        exact absurd hv hl
  · rename_i hne
    refine Rel.drop _ _ r ?_
    split at hv
    · exact absurd rfl (hne _ _)
    · exact hv

theorem sealLG_rel {N : Nat} (hs : Sim P B c) : ∀ (vs : List AV) (ys : List Value), ltL N (vs.map (sealG c.H N)) = true → RelL c vs ys → RelL (c.drop N) (vs.map (sealG c.H N)) ys
  | [], ys, _, r => by simpa [RelL] using r
  | v :: vs, ys, h, r => by
    simp only [List.map_cons, ltL, Bool.and_eq_true] at h
    simp only [RelL] at r
    obtain ⟨y, s, rfl, hy, hs'⟩ := r
    simp only [List.map_cons, RelL]
    exact ⟨y, s, rfl, sealG_rel hs h.1 hy, sealLG_rel hs vs s h.2 hs'⟩

theorem sealV_rel {N : Nat} {v : AV} {V : Value} (hs : Sim P B c) (hv : (sealV c.H N v).lt N = true) (r : Rel c v V) : Rel (c.drop N) (sealV c.H N v) V := by
  unfold sealV at hv ⊢
  split
  · rename_i vs
    simp only [Rel] at r
    obtain ⟨ar, rfl, ra⟩ := r
    simp only [Rel]
    simp only [AV.lt] at hv
    exact ⟨ar, rfl, sealLG_rel hs vs _ hv ra⟩
  · rename_i hne
    refine sealG_rel hs ?_ r
    split at hv
    · exact absurd rfl (hne _)
    · exact hv

theorem sealL_rel {N : Nat} (hs : Sim P B c) : ∀ (vs : List AV) (ys : List Value), ltL N (vs.map (sealV c.H N)) = true → RelL c vs ys → RelL (c.drop N) (vs.map (sealV c.H N)) ys
  | [], ys, _, r => by simpa [RelL] using r
  | v :: vs, ys, h, r => by
    simp only [List.map_cons, ltL, Bool.and_eq_true] at h
    simp only [RelL] at r
    obtain ⟨y, s, rfl, hy, hs'⟩ := r
    simp only [List.map_cons, RelL]
    exact ⟨y, s, rfl, sealV_rel hs h.1 hy, sealL_rel hs vs s h.2 hs'⟩

theorem sealT_rel {N : Nat} {v : AV} {V : Value} (hs : Sim P B c) (hv : (sealT c.H N v).lt N = true) (r : Rel c v V) : Rel (c.drop N) (sealT c.H N v) V := by
  unfold sealT at hv ⊢
  split
  · rename_i vs
    simp only [Rel] at r
    obtain ⟨ar, rfl, ra⟩ := r
    simp only [Rel]
    simp only [AV.lt] at hv
    exact ⟨ar, rfl, sealL_rel hs vs _ hv ra⟩
  · rename_i hne
    refine sealV_rel hs ?_ r
    split at hv
    · exact absurd rfl (hne _)
    · exact hv

/-- Behind a call. -/
theorem fin_done {base : Nat} {d : Done} {fr : Frame} {u : Up} {m : FrameMode} {pan : Option (AV × Bool)} {V : Value} (hbc : HB base c.H) (h : Fin P B c.H.length c.H.length c d fr u m pan V) : Fin P B c.H.length base c (finishC c.H.length d) fr u m pan V := by
  obtain ⟨c', fr', m', wl, e, h1, h2, h3, h4, h5, h6, h7, h8, h9, h10⟩ := h
  have ht : Tr base c c' := h7.full hbc.le
  have old : ∀ l o, l < base → c'.H[l]? = some o → o.lt base = true := by
    intro l o hl ho
    have : l < c.H.length := Nat.lt_of_lt_of_le hl hbc.le
    exact ht.lt l base _ o hl (List.getElem?_eq_getElem this) ho hl (hbc.old l _ hl (List.getElem?_eq_getElem this))
  have keep : Fin P B c.H.length base c d fr u m pan V := ⟨c', fr', m', wl, e, h1, h2, h3, h4, h5, h6, h7, ⟨Nat.le_trans hbc.le ht.ext.len, old, h8.all⟩, h9, h10⟩
  have cut : ∀ o : Out, RelR (c'.drop c.H.length) o e → Fin P B c.H.length base c ⟨o, d.H.take c.H.length, d.pan⟩ fr u m pan V := by
    intro o ho
    have hlen : (c'.drop c.H.length).H.length = c.H.length := by
      simp only [Cx.drop, List.length_take]; exact Nat.min_eq_left ht.ext.len
    refine ⟨c'.drop c.H.length, fr', m', wl, e, h1, h2, h3, ho, by simp [Cx.drop, h5], h6.drop (fun l o hl ho => h8.old l o hl ho), h7.trans (drop_trb (Nat.le_refl _) _), ⟨by rw [hlen]; exact hbc.le, ?_, ?_⟩, h9, h10⟩
    · intro l o hl ho
      simp only [Cx.drop, List.getElem?_take] at ho
      split at ho
      · exact old l o hl ho
      · cases ho
    · intro l o ho
      rw [hlen]
      simp only [Cx.drop, List.getElem?_take] at ho
      split at ho
      · rename_i hl; exact h8.old l o hl ho
      · cases ho
  unfold finishC
  split
  · rename_i v hv
    split
    · rename_i hlt
      refine cut _ ?_
      rw [hv] at h4
      cases e with
      | pan _ => exact h4.elim
      | ret x =>
        rw [← h5] at hlt ⊢
        exact sealT_rel h6 hlt h4
    · exact keep
  · rename_i v hv
    split
    · rename_i hlt
      refine cut _ ?_
      rw [hv] at h4
      cases e with
      | ret _ => exact h4.elim
      | pan x => exact Rel.drop _ _ h4 hlt
    · exact keep

end
end Go.Ab
