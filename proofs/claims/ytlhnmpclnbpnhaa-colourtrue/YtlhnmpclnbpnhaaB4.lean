/-
  Each operation of the abstract evaluator is one of the model: maps, and slices that are made and copied.
-/
import Derived.Test.YtlhnmpclnbpnhaaB3
namespace Go.Ab
set_option linter.unusedSimpArgs false
set_option linter.unusedVariables false

mutual
theorem same_eq : ∀ (a b : AV), a.same b = true → a = b
  | .int _ _, b, h => by cases b <;> simp_all [AV.same]
  | .bool _, b, h => by cases b <;> simp_all [AV.same]
  | .nilp, b, h => by cases b <;> simp_all [AV.same]
  | .ptr _ _, b, h => by cases b <;> simp_all [AV.same]
  | .eptr _ _ _ _, b, h => by cases b <;> simp_all [AV.same]
  | .vptr e o, b, h => by
    cases b <;> simp only [AV.same, Bool.and_eq_true] at h <;> try (cases h; done)
    rw [same_eq e _ h.1, eq_of_beq h.2]
  | .sl f es, b, h => by
    cases b <;> simp only [AV.same, Bool.and_eq_true] at h <;> try (cases h; done)
    rw [sameL_eq es _ h.2, eq_of_beq h.1]
  | .gsl _ _, b, h => by cases b <;> simp_all [AV.same]
  | .map _, b, h => by cases b <;> simp_all [AV.same]
  | .nilmap, b, h => by cases b <;> simp_all [AV.same]
  | .func f x y, b, h => by
    cases b <;> simp only [AV.same, Bool.and_eq_true] at h <;> try (cases h; done)
    rw [eq_of_beq h.1.1, sameL_eq x _ h.1.2, sameL_eq y _ h.2]
  | .nilFunc, b, h => by cases b <;> simp_all [AV.same]
  | .iface t v, b, h => by
    cases b <;> simp only [AV.same, Bool.and_eq_true] at h <;> try (cases h; done)
    rw [eq_of_beq h.1, same_eq v _ h.2]
  | .nilIface, b, h => by cases b <;> simp_all [AV.same]
  | .agg cs, b, h => by
    cases b <;> simp only [AV.same] at h <;> try (cases h; done)
    rw [sameL_eq cs _ h]
  | .tup cs, b, h => by
    cases b <;> simp only [AV.same] at h <;> try (cases h; done)
    rw [sameL_eq cs _ h]
  | .undef, b, h => by cases b <;> simp_all [AV.same]
theorem sameL_eq : ∀ (a b : List AV), sameL a b = true → a = b
  | [], b, h => by cases b <;> simp_all [sameL]
  | x :: a, b, h => by
    cases b with
    | nil => simp [sameL] at h
    | cons y b =>
      simp only [sameL, Bool.and_eq_true] at h
      rw [same_eq x y h.1, sameL_eq a b h.2]
end

theorem sameM_eq : ∀ (a b : List (AV × AV)), sameM a b = true → a = b
  | [], b, h => by cases b <;> simp_all [sameM]
  | (x, v) :: a, b, h => by
    cases b with
    | nil => simp [sameM] at h
    | cons y b =>
      obtain ⟨y1, y2⟩ := y
      simp only [sameM, Bool.and_eq_true] at h
      rw [same_eq x y1 h.1, same_eq v y2 h.2.1, sameM_eq a b h.2.2]

theorem AO.same_eq {a b : AO} (h : a.same b = true) : a = b := by
  cases a <;> cases b <;> simp only [AO.same, Bool.and_eq_true] at h <;> try (cases h; done)
  · rw [Ab.same_eq _ _ h]
  · rw [eq_of_beq h.1, sameL_eq _ _ h.2]
  · rw [eq_of_beq h.1, sameM_eq _ _ h.2]

section
variable {C : Cfg} {P : Program} {B base : Nat} {F : FI} {c : Cx} {e : Env} {a : Act}

theorem bits_same (n : Nat) : ∀ {ks : List (Option IntKind)} {xs : List AV}, fits ks xs = true → ∀ p ∈ (xs.map toV).zip (xs.map toV), Instr.sameBits n p.1 p.2 = true
  | [], [], _, p, hp => by simp at hp
  | [], _ :: _, h, _, _ => by simp [fits] at h
  | none :: ks, x :: xs, h, p, hp => by
    cases x <;> simp only [fits] at h <;> try (cases h; done)
    simp only [List.map_cons, List.zip_cons_cons, List.mem_cons] at hp
    rcases hp with rfl | hp
    · simp [toV, Instr.sameBits]
    · exact bits_same n h p hp
  | some k :: ks, x :: xs, h, p, hp => by
    cases x <;> simp only [fits] at h <;> try (cases h; done)
    simp only [Bool.and_eq_true] at h
    simp only [List.map_cons, List.zip_cons_cons, List.mem_cons] at hp
    rcases hp with rfl | hp
    · simp [toV, Instr.sameBits]
    · exact bits_same n h.2 p hp
  | _ :: _, [], h, _, _ => by simp [fits] at h

theorem key_bits {kt : TypeId} {k : AV} {K : Value} (h : KeyFit P kt k) (r : Rel c k K) : Instr.sameBits 10000 K K = true := by
  have hK := keyFit_rel h r
  obtain ⟨ks, h1, h2, h3⟩ := h
  rcases h3 with ⟨cs, rfl, h4⟩ | ⟨q, n, rfl, h4⟩ | ⟨b, rfl, h4⟩
  · rw [isStr_true h4] at hK
    subst hK
    have := bits_same 9999 h2
    show Instr.sameBits (9999 + 1) _ _ = true
    simp only [Instr.sameBits, beq_self_eq_true, Bool.true_and, List.all_eq_true]
    exact fun p hp => this p hp
  · simp only [Rel] at r; subst r; simp [Instr.sameBits]
  · simp only [Rel] at r; subst r; simp [Instr.sameBits]

theorem lookup_find {k : AV} : ∀ (es : List (AV × AV)) (i : Nat), lookupM k es = (findM k es i).map (·.2)
  | [], i => rfl
  | (k', v) :: es, i => by
    simp only [lookupM, findM]
    split
    · rfl
    · exact lookup_find es (i + 1)

theorem run_getMap {w : World} {b : Nat} {es : Array MapEntry} {n : Nat} (h : w.heap[b]? = some (.map es n)) : (getObj b).run P w = .ok (.map es n) w := by
  simp [getObj, Sem.run, h]

theorem run_setMap {w : World} {b : Nat} {es : Array MapEntry} {n : Nat} (h : w.heap[b]? = some (.map es n)) (o : Obj) : (setObj b o).run P w = .ok () { w with heap := w.heap.setIfInBounds b o } := by
  simp [setObj, Sem.run, h]

theorem lookup_ok (ok : Ok C P) (hs : Sim P B c) {t kt et l : TypeId} {ty : Ty} (hty : C.ty t = some ty) (hd : ty.d = .map kt et) {k : AV} {K M : Value} (hk : eqFit C kt k = true) (rk : Rel c k K) (rm : Rel c (.map l) M) {es : List (AV × AV)} (hl : c.H[l]? = some (.map kt es)) (q : Bool) :
    (∀ v, lookupM k es = some v → ∃ V, (Instr.lookup t M K q).run P c.w = .ok V c.w ∧ Rel c (if q then .tup [v, .bool true] else v) V) ∧
    (∀ te, lookupM k es = none → C.ty et = some te → te.zeroOk = true → ∃ V, (Instr.lookup t M K q).run P c.w = .ok V c.w ∧ Rel c (if q then .tup [te.zv, .bool false] else te.zv) V) := by
  have hu := map_under (ok.ty _ _ hty) hd
  have hkf := eqFit_key ok hk
  simp only [Rel] at rm
  obtain ⟨b, hb, _, rfl⟩ := rm
  obtain ⟨o, ho, hr⟩ := hs.obj l b hb
  rw [hl] at ho; cases ho
  obtain ⟨ents, h1, h2, h3⟩ := hr
  obtain ⟨u, hku⟩ := keyFit_under hkf
  obtain ⟨o, ho, hf⟩ := find_run hku hkf rk h2 h3 c.w
  rw [lookup_find es 0]
  have hcheck := check_run hkf rk (ents.toArray).isEmpty c.w
  constructor
  · intro v hv
    cases hfm : findM k es 0 with
    | none => rw [hfm] at hv; cases hv
    | some p =>
      obtain ⟨m, v'⟩ := p
      rw [hfm] at hv hf
      simp only [Option.map_some, Option.some.injEq] at hv
      subst hv
      obtain ⟨V, rfl, hV⟩ := hf
      cases q with
      | true => exact ⟨.tuple #[V, .bool true], by simp only [Instr.lookup, Sem.run_bind, run_under hu, Result.andThen_ok, run_getMap h1, Sem.run_pure, hcheck, ho, if_true], by simp only [if_true, Rel, RelL]; exact ⟨_, rfl, V, _, rfl, hV, .bool true, [], rfl, rfl, rfl⟩⟩
      | false => exact ⟨V, by simp only [Instr.lookup, Sem.run_bind, run_under hu, Result.andThen_ok, run_getMap h1, Sem.run_pure, hcheck, ho, Bool.false_eq_true, if_false], by simpa using hV⟩
  · intro te hv hte hz
    obtain ⟨z, hz0, hzr, _⟩ := zero_rel hz
    have hzero := run_zero (P := P) (ok.ty _ _ hte) hz0 c.w
    cases hfm : findM k es 0 with
    | some p => rw [hfm] at hv; cases hv
    | none =>
      rw [hfm] at hf
      cases hf
      cases q with
      | true => exact ⟨.tuple #[z, .bool false], by simp only [Instr.lookup, Sem.run_bind, run_under hu, Result.andThen_ok, run_getMap h1, Sem.run_pure, hcheck, ho, hzero, if_true], by simp only [if_true, Rel, RelL]; exact ⟨_, rfl, z, _, rfl, hzr c, .bool false, [], rfl, rfl, rfl⟩⟩
      | false => exact ⟨z, by simp only [Instr.lookup, Sem.run_bind, run_under hu, Result.andThen_ok, run_getMap h1, Sem.run_pure, hcheck, ho, hzero, Bool.false_eq_true, if_false], by simpa using hzr c⟩

theorem put_some {k v : AV} {K V : Value} (rk : Rel c k K) (rv : Rel c v V) : ∀ (es : List (AV × AV)) (l : List MapEntry) (i m : Nat) (v0 : AV), findM k es i = some (m, v0) → RelM c es l i →
    i ≤ m ∧ RelM c (putM k v es) (l.modify (m - i) fun e => { e with key := K, val := V }) i ∧ ∃ e, l[m - i]? = some e ∧ ∃ k', k.same k' = true ∧ Rel c k' e.key ∧ (k', v0) ∈ es
  | [], l, i, m, v0, h, _ => by simp [findM] at h
  | (k', v') :: es, l, i, m, v0, h, r => by
    simp only [RelM] at r
    obtain ⟨e, s, rfl, hk', hv', hb, hr⟩ := r
    simp only [findM] at h
    split at h
    · rename_i hsm
      cases h
      refine ⟨Nat.le_refl _, ?_, e, by simp, k', hsm, hk', by simp⟩
      simp only [putM, hsm, if_true, Nat.sub_self, List.modify_zero_cons, RelM]
      exact ⟨_, s, rfl, rk, rv, hb, hr⟩
    · rename_i hsm
      obtain ⟨h1, h2, e', h3, k2, h4, h5, h6⟩ := put_some rk rv es s (i + 1) m v0 h hr
      have hmi : m - i = (m - (i + 1)) + 1 := by omega
      refine ⟨by omega, ?_, e', by rw [hmi]; simpa using h3, k2, h4, h5, by simp [h6]⟩
      simp only [putM]
      rw [if_neg hsm, hmi]
      simp only [List.modify_succ_cons, RelM]
      exact ⟨e, _, rfl, hk', hv', hb, h2⟩

theorem put_none {k v : AV} {K V : Value} (rk : Rel c k K) (rv : Rel c v V) : ∀ (es : List (AV × AV)) (l : List MapEntry) (i : Nat), findM k es i = none → RelM c es l i →
    RelM c (putM k v es) (l ++ [{ key := K, val := V, born := i + l.length }]) i
  | [], l, i, _, r => by
    simp only [RelM] at r; subst r
    simp only [putM, RelM, List.nil_append]
    exact ⟨_, [], rfl, rk, rv, by simp, rfl⟩
  | (k', v') :: es, l, i, h, r => by
    simp only [RelM] at r
    obtain ⟨e, s, rfl, hk', hv', hb, hr⟩ := r
    simp only [findM] at h
    split at h
    · cases h
    · rename_i hsm
      have := put_none rk rv es s (i + 1) h hr
      simp only [putM]
      rw [if_neg hsm]
      simp only [RelM, List.cons_append, List.length_cons]
      refine ⟨e, _, rfl, hk', hv', hb, ?_⟩
      rw [show i + (s.length + 1) = i + 1 + s.length by omega]
      exact this

theorem put_key {kt : TypeId} {k v : AV} (hk : KeyFit P kt k) : ∀ (es : List (AV × AV)), (∀ x ∈ es, KeyFit P kt x.1) → ∀ x ∈ putM k v es, KeyFit P kt x.1
  | [], _, x, hx => by simp [putM] at hx; subst hx; exact hk
  | (k', v') :: es, h, x, hx => by
    simp only [putM] at hx
    split at hx
    · rcases List.mem_cons.1 hx with rfl | hx
      · exact hk
      · exact h x (by simp [hx])
    · rcases List.mem_cons.1 hx with rfl | hx
      · exact h (k', v') (by simp)
      · exact put_key hk es (fun y hy => h y (by simp [hy])) x hx

theorem put_lt {N : Nat} {k v : AV} (hk : k.lt N = true) (hv : v.lt N = true) : ∀ (es : List (AV × AV)), mapLt N es = true → mapLt N (putM k v es) = true
  | [], _ => by simp [putM, mapLt, hk, hv]
  | (k', v') :: es, h => by
    simp only [mapLt, Bool.and_eq_true] at h
    simp only [putM]
    split
    · simp [mapLt, hk, hv, h.2.2]
    · simp [mapLt, h.1, h.2.1, put_lt hk hv es h.2.2]

theorem mapUpdate_ok (ok : Ok C P) (hs : Sim P B c) (hb0 : HB base c.H) {t kt et l : TypeId} {ty : Ty} (hty : C.ty t = some ty) (hd : ty.d = .map kt et) {k x : AV} {K M X : Value} (hk : eqFit C kt k = true) (rk : Rel c k K) (rm : Rel c (.map l) M) (rx : Rel c x X) {es : List (AV × AV)} (hl : c.H[l]? = some (.map kt es))
    {H' : Heap} (hst : storeObj c.H base l x (.map kt (putM k x es)) = some H') :
    ∃ w', (Instr.mapUpdate t M K X).run P c.w = .ok () w' ∧ Sim P B ⟨w', c.ρ, H'⟩ ∧ Tr base c ⟨w', c.ρ, H'⟩ ∧ HB base H' := by
  have hu := map_under (ok.ty _ _ hty) hd
  have hkf := eqFit_key ok hk
  unfold storeObj at hst
  split at hst
  · rename_i hlt
    cases hst
    simp only [Bool.or_eq_true, decide_eq_true_eq] at hlt
    simp only [Rel] at rm
    obtain ⟨b, hb, _, rfl⟩ := rm
    obtain ⟨o, ho, hr⟩ := hs.obj l b hb
    rw [hl] at ho; cases ho
    obtain ⟨ents, h1, h2, h3⟩ := hr
    obtain ⟨u, hku⟩ := keyFit_under hkf
    obtain ⟨o, ho, hf⟩ := find_run hku hkf rk h2 h3 c.w
    have hcheck := check_run hkf rk false c.w
    have hkind : Kind (.map kt es) (.map kt (putM k x es)) := rfl
    have hxl : x.lt c.H.length = true := Rel.lt _ _ rx
    have fin : ∀ l' : List MapEntry, RelM c (putM k x es) l' 0 → (Instr.mapUpdate t (.map (some b)) K X).run P c.w = .ok () { c.w with heap := c.w.heap.setIfInBounds b (.map l'.toArray l'.length) } →
        ∃ w', (Instr.mapUpdate t (.map (some b)) K X).run P c.w = .ok () w' ∧ Sim P B ⟨w', c.ρ, c.H.set l (.map kt (putM k x es))⟩ ∧ Tr base c ⟨w', c.ρ, c.H.set l (.map kt (putM k x es))⟩ ∧ HB base (c.H.set l (.map kt (putM k x es))) := by
      intro l' hr' hrun
      have hblt := (hs.lo l b hb).2
      have hW : Wr c b { c.w with heap := c.w.heap.setIfInBounds b (.map l'.toArray l'.length) } := {
        sys := ⟨rfl, rfl, rfl⟩
        size := by simp
        others := fun d hd => by simp only; rw [Array.getElem?_setIfInBounds_ne (fun e => hd e.symm)]
        cells := fun cs T fr hc => by rw [h1] at hc; cases hc }
      refine ⟨_, hrun, wr_sim hs hb hl hW hkind ⟨l', ?_, RelM.ext (wr_ext hb hl hW hkind) _ _ _ hr', put_key hkf es h3⟩, wr_tr hb hl hW hkind ?_, set_hb hb0 hl ?_ ?_⟩
      · simp only [Cx.wr]; rw [Array.getElem?_setIfInBounds_self_of_lt hblt]
      · intro N hlb hlN ho
        rcases hlt with hlt | hlt
        · exact put_lt (keyFit_lt N hkf) (lt_mono (by omega) x hlt) es ho
        · omega
      · intro hlb
        rcases hlt with hlt | hlt
        · exact put_lt (keyFit_lt _ hkf) (lt_mono (by omega) x hlt) es (hb0.old l _ hlb hl)
        · omega
      · exact put_lt (keyFit_lt _ hkf) hxl es (hb0.all l _ hl)
    cases hfm : findM k es 0 with
    | none =>
      rw [hfm] at hf
      cases hf
      refine fin _ (put_none rk rx es ents 0 hfm h2) ?_
      simp only [Instr.mapUpdate, Sem.run_bind, run_under hu, Result.andThen_ok, run_getMap h1, hcheck, ho]
      rw [run_setMap h1]
      simp
    | some p =>
      obtain ⟨m, v0⟩ := p
      rw [hfm] at hf
      obtain ⟨V, rfl, _⟩ := hf
      obtain ⟨_, hp, e', he', k', hsm, hke, hmem⟩ := put_some rk rx es ents 0 m v0 hfm h2
      have hkk := same_eq _ _ hsm
      subst hkk
      have hKe : e'.key = K := by rw [keyFit_rel hkf hke, keyFit_rel hkf rk]
      refine fin _ hp ?_
      have hstay : (Instr.keyThatStays (((ents.toArray)[m]?.map (·.key)).getD K) K).run P c.w = .ok K c.w := by
        rw [List.getElem?_toArray, show ents[m]? = some e' by simpa using he']
        simp only [Option.map_some, Option.getD_some, hKe, Instr.keyThatStays, key_bits hkf rk, if_true, Sem.run_pure]
      simp only [Instr.mapUpdate, Sem.run_bind, run_under hu, Result.andThen_ok, run_getMap h1, hcheck, ho, hstay]
      rw [run_setMap h1]
      simp
  · cases hst

end
end Go.Ab
