/-
  The tables of the evaluator are the program's: row by row.
-/
import Derived.Test.YtppmifiahebgfaaT0
import Derived.Test.YtppmifiahebgfaaD9
namespace Go.Ab

theorem getAt_mem {α : Type} : ∀ {l : List (Nat × α)} {k : Nat} {y : α}, getAt l k = some y → (k, y) ∈ l
  | (i, x) :: r, k, y, h => by
    simp only [getAt] at h
    by_cases e : i = k
    · simp only [e, if_pos, Option.some.injEq] at h; subst e; subst h; exact List.mem_cons_self ..
    · rw [if_neg e] at h; exact List.mem_cons_of_mem _ (getAt_mem h)

theorem tyr1 : tyOf prog0 1 = getAt tyL 1 := by kernel_rfl
theorem tyr2 : tyOf prog0 2 = getAt tyL 2 := by kernel_rfl
theorem tyr3 : tyOf prog0 3 = getAt tyL 3 := by kernel_rfl
theorem tyr4 : tyOf prog0 4 = getAt tyL 4 := by kernel_rfl
theorem tyr5 : tyOf prog0 5 = getAt tyL 5 := by kernel_rfl
theorem tyr6 : tyOf prog0 6 = getAt tyL 6 := by kernel_rfl
theorem tyr8 : tyOf prog0 8 = getAt tyL 8 := by kernel_rfl
theorem tyr12 : tyOf prog0 12 = getAt tyL 12 := by kernel_rfl
theorem tyr15 : tyOf prog0 15 = getAt tyL 15 := by kernel_rfl
theorem tyr16 : tyOf prog0 16 = getAt tyL 16 := by kernel_rfl
theorem tyr17 : tyOf prog0 17 = getAt tyL 17 := by kernel_rfl
theorem tyr19 : tyOf prog0 19 = getAt tyL 19 := by kernel_rfl
theorem tyr20 : tyOf prog0 20 = getAt tyL 20 := by kernel_rfl
theorem tyr22 : tyOf prog0 22 = getAt tyL 22 := by kernel_rfl
theorem tyr23 : tyOf prog0 23 = getAt tyL 23 := by kernel_rfl
theorem tyr25 : tyOf prog0 25 = getAt tyL 25 := by kernel_rfl
theorem tyr29 : tyOf prog0 29 = getAt tyL 29 := by kernel_rfl
theorem tyr30 : tyOf prog0 30 = getAt tyL 30 := by kernel_rfl
theorem tyr38 : tyOf prog0 38 = getAt tyL 38 := by kernel_rfl
theorem tyr45 : tyOf prog0 45 = getAt tyL 45 := by kernel_rfl
theorem tyr46 : tyOf prog0 46 = getAt tyL 46 := by kernel_rfl
theorem tyr48 : tyOf prog0 48 = getAt tyL 48 := by kernel_rfl
theorem tyr49 : tyOf prog0 49 = getAt tyL 49 := by kernel_rfl
theorem tyr53 : tyOf prog0 53 = getAt tyL 53 := by kernel_rfl
theorem tyr56 : tyOf prog0 56 = getAt tyL 56 := by kernel_rfl
theorem tyr57 : tyOf prog0 57 = getAt tyL 57 := by kernel_rfl
theorem tyr63 : tyOf prog0 63 = getAt tyL 63 := by kernel_rfl
theorem tyr66 : tyOf prog0 66 = getAt tyL 66 := by kernel_rfl
theorem tyr68 : tyOf prog0 68 = getAt tyL 68 := by kernel_rfl
theorem tyr69 : tyOf prog0 69 = getAt tyL 69 := by kernel_rfl
theorem tyr71 : tyOf prog0 71 = getAt tyL 71 := by kernel_rfl
theorem tyr72 : tyOf prog0 72 = getAt tyL 72 := by kernel_rfl
theorem tyr74 : tyOf prog0 74 = getAt tyL 74 := by kernel_rfl
theorem tyr75 : tyOf prog0 75 = getAt tyL 75 := by kernel_rfl
theorem tyr80 : tyOf prog0 80 = getAt tyL 80 := by kernel_rfl
theorem tyr82 : tyOf prog0 82 = getAt tyL 82 := by kernel_rfl
theorem tyr83 : tyOf prog0 83 = getAt tyL 83 := by kernel_rfl
theorem tyr88 : tyOf prog0 88 = getAt tyL 88 := by kernel_rfl
theorem tyr90 : tyOf prog0 90 = getAt tyL 90 := by kernel_rfl
theorem tyr96 : tyOf prog0 96 = getAt tyL 96 := by kernel_rfl
theorem tyr97 : tyOf prog0 97 = getAt tyL 97 := by kernel_rfl
theorem tyr101 : tyOf prog0 101 = getAt tyL 101 := by kernel_rfl
theorem tyr105 : tyOf prog0 105 = getAt tyL 105 := by kernel_rfl
theorem tyr106 : tyOf prog0 106 = getAt tyL 106 := by kernel_rfl
theorem tyr107 : tyOf prog0 107 = getAt tyL 107 := by kernel_rfl
theorem tyr109 : tyOf prog0 109 = getAt tyL 109 := by kernel_rfl
theorem tyr114 : tyOf prog0 114 = getAt tyL 114 := by kernel_rfl
theorem tyr120 : tyOf prog0 120 = getAt tyL 120 := by kernel_rfl
theorem tyr122 : tyOf prog0 122 = getAt tyL 122 := by kernel_rfl
theorem tyr123 : tyOf prog0 123 = getAt tyL 123 := by kernel_rfl
theorem tyr125 : tyOf prog0 125 = getAt tyL 125 := by kernel_rfl
theorem tyr126 : tyOf prog0 126 = getAt tyL 126 := by kernel_rfl
theorem tyr129 : tyOf prog0 129 = getAt tyL 129 := by kernel_rfl
theorem tyr131 : tyOf prog0 131 = getAt tyL 131 := by kernel_rfl
theorem tyr141 : tyOf prog0 141 = getAt tyL 141 := by kernel_rfl

theorem ty_rows : ∀ k ∈ [1, 2, 3, 4, 5, 6, 8, 12, 15, 16, 17, 19, 20, 22, 23, 25, 29, 30, 38, 45, 46, 48, 49, 53, 56, 57, 63, 66, 68, 69, 71, 72, 74, 75, 80, 82, 83, 88, 90, 96, 97, 101, 105, 106, 107, 109, 114, 120, 122, 123, 125, 126, 129, 131, 141], tyOf prog0 k = getAt tyL k := by
  simp only [List.forall_mem_cons]
  exact ⟨tyr1, tyr2, tyr3, tyr4, tyr5, tyr6, tyr8, tyr12, tyr15, tyr16, tyr17, tyr19, tyr20, tyr22, tyr23, tyr25, tyr29, tyr30, tyr38, tyr45, tyr46, tyr48, tyr49, tyr53, tyr56, tyr57, tyr63, tyr66, tyr68, tyr69, tyr71, tyr72, tyr74, tyr75, tyr80, tyr82, tyr83, tyr88, tyr90, tyr96, tyr97, tyr101, tyr105, tyr106, tyr107, tyr109, tyr114, tyr120, tyr122, tyr123, tyr125, tyr126, tyr129, tyr131, tyr141, List.forall_mem_nil _⟩

theorem eqr2 : ∀ st ks, getAt eqL 2 = some (st, ks) → eqCells prog0 8 2 = some ks ∧ isStr prog0 2 = st ∧ prog0.eqGuardType prog0.depth 2 = false := fun _ _ h => by
  injection h with h; injection h with h1 h2; subst h1; subst h2
  exact ⟨by kernel_rfl, by kernel_rfl, by kernel_rfl⟩
theorem eqr3 : ∀ st ks, getAt eqL 3 = some (st, ks) → eqCells prog0 8 3 = some ks ∧ isStr prog0 3 = st ∧ prog0.eqGuardType prog0.depth 3 = false := fun _ _ h => by
  injection h with h; injection h with h1 h2; subst h1; subst h2
  exact ⟨by kernel_rfl, by kernel_rfl, by kernel_rfl⟩
theorem eqr4 : ∀ st ks, getAt eqL 4 = some (st, ks) → eqCells prog0 8 4 = some ks ∧ isStr prog0 4 = st ∧ prog0.eqGuardType prog0.depth 4 = false := fun _ _ h => by
  injection h with h; injection h with h1 h2; subst h1; subst h2
  exact ⟨by kernel_rfl, by kernel_rfl, by kernel_rfl⟩
theorem eqr5 : ∀ st ks, getAt eqL 5 = some (st, ks) → eqCells prog0 8 5 = some ks ∧ isStr prog0 5 = st ∧ prog0.eqGuardType prog0.depth 5 = false := fun _ _ h => by
  injection h with h; injection h with h1 h2; subst h1; subst h2
  exact ⟨by kernel_rfl, by kernel_rfl, by kernel_rfl⟩
theorem eqr6 : ∀ st ks, getAt eqL 6 = some (st, ks) → eqCells prog0 8 6 = some ks ∧ isStr prog0 6 = st ∧ prog0.eqGuardType prog0.depth 6 = false := fun _ _ h => by
  injection h with h; injection h with h1 h2; subst h1; subst h2
  exact ⟨by kernel_rfl, by kernel_rfl, by kernel_rfl⟩
theorem eqr8 : ∀ st ks, getAt eqL 8 = some (st, ks) → eqCells prog0 8 8 = some ks ∧ isStr prog0 8 = st ∧ prog0.eqGuardType prog0.depth 8 = false := fun _ _ h => by
  injection h with h; injection h with h1 h2; subst h1; subst h2
  exact ⟨by kernel_rfl, by kernel_rfl, by kernel_rfl⟩
theorem eqr12 : ∀ st ks, getAt eqL 12 = some (st, ks) → eqCells prog0 8 12 = some ks ∧ isStr prog0 12 = st ∧ prog0.eqGuardType prog0.depth 12 = false := fun _ _ h => by
  injection h with h; injection h with h1 h2; subst h1; subst h2
  exact ⟨by kernel_rfl, by kernel_rfl, by kernel_rfl⟩
theorem eqr29 : ∀ st ks, getAt eqL 29 = some (st, ks) → eqCells prog0 8 29 = some ks ∧ isStr prog0 29 = st ∧ prog0.eqGuardType prog0.depth 29 = false := fun _ _ h => by
  injection h with h; injection h with h1 h2; subst h1; subst h2
  exact ⟨by kernel_rfl, by kernel_rfl, by kernel_rfl⟩
theorem eqr30 : ∀ st ks, getAt eqL 30 = some (st, ks) → eqCells prog0 8 30 = some ks ∧ isStr prog0 30 = st ∧ prog0.eqGuardType prog0.depth 30 = false := fun _ _ h => by
  injection h with h; injection h with h1 h2; subst h1; subst h2
  exact ⟨by kernel_rfl, by kernel_rfl, by kernel_rfl⟩
theorem eqr45 : ∀ st ks, getAt eqL 45 = some (st, ks) → eqCells prog0 8 45 = some ks ∧ isStr prog0 45 = st ∧ prog0.eqGuardType prog0.depth 45 = false := fun _ _ h => by
  injection h with h; injection h with h1 h2; subst h1; subst h2
  exact ⟨by kernel_rfl, by kernel_rfl, by kernel_rfl⟩
theorem eqr56 : ∀ st ks, getAt eqL 56 = some (st, ks) → eqCells prog0 8 56 = some ks ∧ isStr prog0 56 = st ∧ prog0.eqGuardType prog0.depth 56 = false := fun _ _ h => by
  injection h with h; injection h with h1 h2; subst h1; subst h2
  exact ⟨by kernel_rfl, by kernel_rfl, by kernel_rfl⟩
theorem eqr63 : ∀ st ks, getAt eqL 63 = some (st, ks) → eqCells prog0 8 63 = some ks ∧ isStr prog0 63 = st ∧ prog0.eqGuardType prog0.depth 63 = false := fun _ _ h => by
  injection h with h; injection h with h1 h2; subst h1; subst h2
  exact ⟨by kernel_rfl, by kernel_rfl, by kernel_rfl⟩
theorem eqr83 : ∀ st ks, getAt eqL 83 = some (st, ks) → eqCells prog0 8 83 = some ks ∧ isStr prog0 83 = st ∧ prog0.eqGuardType prog0.depth 83 = false := fun _ _ h => by
  injection h with h; injection h with h1 h2; subst h1; subst h2
  exact ⟨by kernel_rfl, by kernel_rfl, by kernel_rfl⟩
theorem eqr105 : ∀ st ks, getAt eqL 105 = some (st, ks) → eqCells prog0 8 105 = some ks ∧ isStr prog0 105 = st ∧ prog0.eqGuardType prog0.depth 105 = false := fun _ _ h => by
  injection h with h; injection h with h1 h2; subst h1; subst h2
  exact ⟨by kernel_rfl, by kernel_rfl, by kernel_rfl⟩
theorem eqr109 : ∀ st ks, getAt eqL 109 = some (st, ks) → eqCells prog0 8 109 = some ks ∧ isStr prog0 109 = st ∧ prog0.eqGuardType prog0.depth 109 = false := fun _ _ h => by
  injection h with h; injection h with h1 h2; subst h1; subst h2
  exact ⟨by kernel_rfl, by kernel_rfl, by kernel_rfl⟩
theorem eqr114 : ∀ st ks, getAt eqL 114 = some (st, ks) → eqCells prog0 8 114 = some ks ∧ isStr prog0 114 = st ∧ prog0.eqGuardType prog0.depth 114 = false := fun _ _ h => by
  injection h with h; injection h with h1 h2; subst h1; subst h2
  exact ⟨by kernel_rfl, by kernel_rfl, by kernel_rfl⟩
theorem eqr129 : ∀ st ks, getAt eqL 129 = some (st, ks) → eqCells prog0 8 129 = some ks ∧ isStr prog0 129 = st ∧ prog0.eqGuardType prog0.depth 129 = false := fun _ _ h => by
  injection h with h; injection h with h1 h2; subst h1; subst h2
  exact ⟨by kernel_rfl, by kernel_rfl, by kernel_rfl⟩
theorem eqr131 : ∀ st ks, getAt eqL 131 = some (st, ks) → eqCells prog0 8 131 = some ks ∧ isStr prog0 131 = st ∧ prog0.eqGuardType prog0.depth 131 = false := fun _ _ h => by
  injection h with h; injection h with h1 h2; subst h1; subst h2
  exact ⟨by kernel_rfl, by kernel_rfl, by kernel_rfl⟩
theorem eqr141 : ∀ st ks, getAt eqL 141 = some (st, ks) → eqCells prog0 8 141 = some ks ∧ isStr prog0 141 = st ∧ prog0.eqGuardType prog0.depth 141 = false := fun _ _ h => by
  injection h with h; injection h with h1 h2; subst h1; subst h2
  exact ⟨by kernel_rfl, by kernel_rfl, by kernel_rfl⟩

theorem eq_rows : ∀ k ∈ [2, 3, 4, 5, 6, 8, 12, 29, 30, 45, 56, 63, 83, 105, 109, 114, 129, 131, 141], ∀ st ks, getAt eqL k = some (st, ks) → eqCells prog0 8 k = some ks ∧ isStr prog0 k = st ∧ prog0.eqGuardType prog0.depth k = false := by
  simp only [List.forall_mem_cons]
  exact ⟨eqr2, eqr3, eqr4, eqr5, eqr6, eqr8, eqr12, eqr29, eqr30, eqr45, eqr56, eqr63, eqr83, eqr105, eqr109, eqr114, eqr129, eqr131, eqr141, List.forall_mem_nil _⟩

set_option maxRecDepth 100000 in
theorem fn_rows : ∀ x ∈ fnL, prog0.funcs[x.1]? = some x.2 := by
  simp only [fnL, List.forall_mem_cons]
  exact ⟨Go.Proofs.Try.func0, Go.Proofs.Try.func1, Go.Proofs.Try.func2, Go.Proofs.Try.func3, Go.Proofs.Try.func4, Go.Proofs.Try.func5, Go.Proofs.Try.func6, Go.Proofs.Try.func7, Go.Proofs.Try.func8, Go.Proofs.Try.func9, Go.Proofs.Try.func10, Go.Proofs.Try.func11, Go.Proofs.Try.func12, Go.Proofs.Try.func13, Go.Proofs.Try.func14, Go.Proofs.Try.func15, Go.Proofs.Try.func16, Go.Proofs.Try.func17, Go.Proofs.Try.func18, Go.Proofs.Try.func19, Go.Proofs.Try.func20, Go.Proofs.Try.func21, Go.Proofs.Try.func22, Go.Proofs.Try.func23, Go.Proofs.Try.func24, Go.Proofs.Try.func25, Go.Proofs.Try.func26, Go.Proofs.Try.func27, Go.Proofs.Try.func28, Go.Proofs.Try.func29, Go.Proofs.Try.func30, Go.Proofs.Try.func31, Go.Proofs.Try.func32, Go.Proofs.Try.func33, Go.Proofs.Try.func34, Go.Proofs.Try.func35, Go.Proofs.Try.func36, Go.Proofs.Try.func37, Go.Proofs.Try.func38, Go.Proofs.Try.func39, Go.Proofs.Try.func40, Go.Proofs.Try.func41, Go.Proofs.Try.func42, Go.Proofs.Try.func43, Go.Proofs.Try.func44, Go.Proofs.Try.func45, Go.Proofs.Try.func46, Go.Proofs.Try.func47, Go.Proofs.Try.func48, Go.Proofs.Try.func49, Go.Proofs.Try.func50, Go.Proofs.Try.func51, Go.Proofs.Try.func52, Go.Proofs.Try.func53, Go.Proofs.Try.func54, Go.Proofs.Try.func55, Go.Proofs.Try.func56, Go.Proofs.Try.func57, Go.Proofs.Try.func58, Go.Proofs.Try.func59, Go.Proofs.Try.func60, Go.Proofs.Try.func61, Go.Proofs.Try.func62, Go.Proofs.Try.func63, Go.Proofs.Try.func64, Go.Proofs.Try.func65, Go.Proofs.Try.func66, Go.Proofs.Try.func67, Go.Proofs.Try.func68, Go.Proofs.Try.func69, Go.Proofs.Try.func70, Go.Proofs.Try.func71, Go.Proofs.Try.func72, Go.Proofs.Try.func73, Go.Proofs.Try.func74, Go.Proofs.Try.func75, Go.Proofs.Try.func76, Go.Proofs.Try.func77, Go.Proofs.Try.func78, Go.Proofs.Try.func79, Go.Proofs.Try.func80, Go.Proofs.Try.func81, Go.Proofs.Try.func82, Go.Proofs.Try.func83, Go.Proofs.Try.func84, Go.Proofs.Try.func85, Go.Proofs.Try.func86, Go.Proofs.Try.func87, Go.Proofs.Try.func88, Go.Proofs.Try.func89, Go.Proofs.Try.func90, Go.Proofs.Try.func91, Go.Proofs.Try.func92, Go.Proofs.Try.func93, Go.Proofs.Try.func94, Go.Proofs.Try.func95, Go.Proofs.Try.func96, Go.Proofs.Try.func97, Go.Proofs.Try.func98, Go.Proofs.Try.func99, Go.Proofs.Try.func100, Go.Proofs.Try.func101, Go.Proofs.Try.func102, Go.Proofs.Try.func103, Go.Proofs.Try.func104, Go.Proofs.Try.func105, Go.Proofs.Try.func106, Go.Proofs.Try.func107, Go.Proofs.Try.func108, Go.Proofs.Try.func109, Go.Proofs.Try.func110, Go.Proofs.Try.func111, Go.Proofs.Try.func112, Go.Proofs.Try.func113, Go.Proofs.Try.func114, Go.Proofs.Try.func115, Go.Proofs.Try.func116, Go.Proofs.Try.func117, Go.Proofs.Try.func118, Go.Proofs.Try.func119, Go.Proofs.Try.func120, Go.Proofs.Try.func121, List.forall_mem_nil _⟩

theorem meth_rows : (methL.all fun r => r.2.all fun p => methodOf prog0 r.1 p.1 == some p.2) = true := by kernel_rfl

theorem name_rows : (fnL.all fun x => x.2.name != "runtime.NumGoroutine") = true := by kernel_rfl

theorem code_rows : (fnL.all fun x => match x.2.body with
  | some b => codeOk x.2.ntmps b
  | none => true) = true := by kernel_rfl

theorem field_rows : (tyL.all fun x => match x.2.d with
  | .struct fs => fs.all fun p => (getAt tyL p.2).isSome
  | _ => true) = true := by kernel_rfl

theorem keys_ty : tyL.map (·.1) = [1, 2, 3, 4, 5, 6, 8, 12, 15, 16, 17, 19, 20, 22, 23, 25, 29, 30, 38, 45, 46, 48, 49, 53, 56, 57, 63, 66, 68, 69, 71, 72, 74, 75, 80, 82, 83, 88, 90, 96, 97, 101, 105, 106, 107, 109, 114, 120, 122, 123, 125, 126, 129, 131, 141] := rfl
theorem keys_eq : eqL.map (·.1) = [2, 3, 4, 5, 6, 8, 12, 29, 30, 45, 56, 63, 83, 105, 109, 114, 129, 131, 141] := rfl

theorem ok0 : Ok cfg0 prog0 where
  ty t y h := by
    have h' : getAt tyL t = some y := h
    rw [ty_rows t (keys_ty ▸ List.mem_map.2 ⟨_, getAt_mem h', rfl⟩)]; exact h'
  eq t st ks h := by
    have h' : getAt eqL t = some (st, ks) := h
    exact eq_rows t (keys_eq ▸ List.mem_map.2 ⟨_, getAt_mem h', rfl⟩) st ks h'
  meth t n g h := by
    have h' : methT t n = some g := h
    unfold methT at h'
    cases e : getAt methL t with
    | none => rw [e] at h'; exact absurd h' (by simp)
    | some r =>
      rw [e] at h'
      have hm := getAt_mem e
      have ha := List.all_eq_true.1 meth_rows _ hm
      simp only [Option.map_eq_some_iff] at h'
      obtain ⟨p, hp, rfl⟩ := h'
      have h1 := List.find?_some hp
      have h2 := List.mem_of_find?_eq_some hp
      have h3 := List.all_eq_true.1 ha _ h2
      have e1 : p.1 = n := by simpa using h1
      subst e1
      simpa using h3
  glob _ := rfl
  fns g fn h := by
    have h' : getAt fnL g = some fn := h
    have hm := getAt_mem h'
    have hf := fn_rows (g, fn) hm
    refine ⟨hf, ?_, ?_⟩
    · have := List.all_eq_true.1 name_rows _ hm
      simpa using this
    · intro b hb
      have := List.all_eq_true.1 code_rows _ hm
      simpa only [hb] using this
  fields t y fs h hd x hx := by
    have h' : getAt tyL t = some y := h
    have := List.all_eq_true.1 field_rows _ (getAt_mem h')
    simp only [hd] at this
    exact Option.isSome_iff_exists.1 (List.all_eq_true.1 this _ hx)

end Go.Ab
