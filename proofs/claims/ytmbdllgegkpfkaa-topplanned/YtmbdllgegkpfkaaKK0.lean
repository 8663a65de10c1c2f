/-
  The tables of the evaluator are the program's: row by row.
-/
import Derived.Test.YtmbdllgegkpfkaaT0
import Derived.Test.YtmbdllgegkpfkaaD9
import Derived.Test.YtmbdllgegkpfkaaE2
import Derived.ProofKit
import Derived.Carry
import Derived.WideShapes
import Derived.OpenShut
namespace Go.Ab
set_option linter.unusedSimpArgs false
set_option linter.unusedVariables false

theorem getAt_mem {α : Type} : ∀ {l : List (Nat × α)} {k : Nat} {y : α}, getAt l k = some y → (k, y) ∈ l
  | (i, x) :: r, k, y, h => by
    simp only [getAt] at h
    by_cases e : i = k
    · simp only [e, if_pos, Option.some.injEq] at h; subst e; subst h; exact List.mem_cons_self ..
    · rw [if_neg e] at h; exact List.mem_cons_of_mem _ (getAt_mem h)

theorem tyr1 : tyOf prog0 1 = getAt tyL 1 := by kernel_rfl
theorem tyr2 : tyOf prog0 2 = getAt tyL 2 := by kernel_rfl
theorem tyr3 : tyOf prog0 3 = getAt tyL 3 := by kernel_rfl
theorem tyr4 : tyOf prog0 4 = getAt tyL 4 := by kernel_rfl
theorem tyr5 : tyOf prog0 5 = getAt tyL 5 := by kernel_rfl
theorem tyr6 : tyOf prog0 6 = getAt tyL 6 := by kernel_rfl
theorem tyr8 : tyOf prog0 8 = getAt tyL 8 := by kernel_rfl
theorem tyr12 : tyOf prog0 12 = getAt tyL 12 := by kernel_rfl
theorem tyr15 : tyOf prog0 15 = getAt tyL 15 := by kernel_rfl
theorem tyr16 : tyOf prog0 16 = getAt tyL 16 := by kernel_rfl
theorem tyr17 : tyOf prog0 17 = getAt tyL 17 := by kernel_rfl
theorem tyr19 : tyOf prog0 19 = getAt tyL 19 := by kernel_rfl
theorem tyr20 : tyOf prog0 20 = getAt tyL 20 := by kernel_rfl
theorem tyr22 : tyOf prog0 22 = getAt tyL 22 := by kernel_rfl
theorem tyr24 : tyOf prog0 24 = getAt tyL 24 := by kernel_rfl
theorem tyr25 : tyOf prog0 25 = getAt tyL 25 := by kernel_rfl
theorem tyr27 : tyOf prog0 27 = getAt tyL 27 := by kernel_rfl
theorem tyr28 : tyOf prog0 28 = getAt tyL 28 := by kernel_rfl
theorem tyr30 : tyOf prog0 30 = getAt tyL 30 := by kernel_rfl
theorem tyr31 : tyOf prog0 31 = getAt tyL 31 := by kernel_rfl
theorem tyr34 : tyOf prog0 34 = getAt tyL 34 := by kernel_rfl
theorem tyr37 : tyOf prog0 37 = getAt tyL 37 := by kernel_rfl
theorem tyr39 : tyOf prog0 39 = getAt tyL 39 := by kernel_rfl
theorem tyr42 : tyOf prog0 42 = getAt tyL 42 := by kernel_rfl
theorem tyr46 : tyOf prog0 46 = getAt tyL 46 := by kernel_rfl
theorem tyr57 : tyOf prog0 57 = getAt tyL 57 := by kernel_rfl
theorem tyr60 : tyOf prog0 60 = getAt tyL 60 := by kernel_rfl
theorem tyr61 : tyOf prog0 61 = getAt tyL 61 := by kernel_rfl
theorem tyr63 : tyOf prog0 63 = getAt tyL 63 := by kernel_rfl
theorem tyr65 : tyOf prog0 65 = getAt tyL 65 := by kernel_rfl
theorem tyr66 : tyOf prog0 66 = getAt tyL 66 := by kernel_rfl
theorem tyr68 : tyOf prog0 68 = getAt tyL 68 := by kernel_rfl
theorem tyr71 : tyOf prog0 71 = getAt tyL 71 := by kernel_rfl
theorem tyr72 : tyOf prog0 72 = getAt tyL 72 := by kernel_rfl
theorem tyr74 : tyOf prog0 74 = getAt tyL 74 := by kernel_rfl
theorem tyr76 : tyOf prog0 76 = getAt tyL 76 := by kernel_rfl
theorem tyr77 : tyOf prog0 77 = getAt tyL 77 := by kernel_rfl
theorem tyr82 : tyOf prog0 82 = getAt tyL 82 := by kernel_rfl
theorem tyr84 : tyOf prog0 84 = getAt tyL 84 := by kernel_rfl
theorem tyr85 : tyOf prog0 85 = getAt tyL 85 := by kernel_rfl
theorem tyr88 : tyOf prog0 88 = getAt tyL 88 := by kernel_rfl
theorem tyr92 : tyOf prog0 92 = getAt tyL 92 := by kernel_rfl
theorem tyr97 : tyOf prog0 97 = getAt tyL 97 := by kernel_rfl
theorem tyr99 : tyOf prog0 99 = getAt tyL 99 := by kernel_rfl
theorem tyr101 : tyOf prog0 101 = getAt tyL 101 := by kernel_rfl
theorem tyr104 : tyOf prog0 104 = getAt tyL 104 := by kernel_rfl
theorem tyr107 : tyOf prog0 107 = getAt tyL 107 := by kernel_rfl
theorem tyr108 : tyOf prog0 108 = getAt tyL 108 := by kernel_rfl
theorem tyr110 : tyOf prog0 110 = getAt tyL 110 := by kernel_rfl
theorem tyr114 : tyOf prog0 114 = getAt tyL 114 := by kernel_rfl
theorem tyr116 : tyOf prog0 116 = getAt tyL 116 := by kernel_rfl
theorem tyr118 : tyOf prog0 118 = getAt tyL 118 := by kernel_rfl
theorem tyr119 : tyOf prog0 119 = getAt tyL 119 := by kernel_rfl
theorem tyr120 : tyOf prog0 120 = getAt tyL 120 := by kernel_rfl
theorem tyr122 : tyOf prog0 122 = getAt tyL 122 := by kernel_rfl
theorem tyr126 : tyOf prog0 126 = getAt tyL 126 := by kernel_rfl
theorem tyr127 : tyOf prog0 127 = getAt tyL 127 := by kernel_rfl
theorem tyr129 : tyOf prog0 129 = getAt tyL 129 := by kernel_rfl
theorem tyr131 : tyOf prog0 131 = getAt tyL 131 := by kernel_rfl
theorem tyr133 : tyOf prog0 133 = getAt tyL 133 := by kernel_rfl
theorem tyr134 : tyOf prog0 134 = getAt tyL 134 := by kernel_rfl
theorem tyr140 : tyOf prog0 140 = getAt tyL 140 := by kernel_rfl
theorem tyr141 : tyOf prog0 141 = getAt tyL 141 := by kernel_rfl
theorem tyr142 : tyOf prog0 142 = getAt tyL 142 := by kernel_rfl
theorem tyr145 : tyOf prog0 145 = getAt tyL 145 := by kernel_rfl
theorem tyr147 : tyOf prog0 147 = getAt tyL 147 := by kernel_rfl
theorem tyr150 : tyOf prog0 150 = getAt tyL 150 := by kernel_rfl
theorem tyr152 : tyOf prog0 152 = getAt tyL 152 := by kernel_rfl
theorem tyr155 : tyOf prog0 155 = getAt tyL 155 := by kernel_rfl
theorem tyr158 : tyOf prog0 158 = getAt tyL 158 := by kernel_rfl
theorem tyr161 : tyOf prog0 161 = getAt tyL 161 := by kernel_rfl
theorem tyr163 : tyOf prog0 163 = getAt tyL 163 := by kernel_rfl
theorem tyr171 : tyOf prog0 171 = getAt tyL 171 := by kernel_rfl
theorem tyr178 : tyOf prog0 178 = getAt tyL 178 := by kernel_rfl

theorem ty_rows : ∀ k ∈ [1, 2, 3, 4, 5, 6, 8, 12, 15, 16, 17, 19, 20, 22, 24, 25, 27, 28, 30, 31, 34, 37, 39, 42, 46, 57, 60, 61, 63, 65, 66, 68, 71, 72, 74, 76, 77, 82, 84, 85, 88, 92, 97, 99, 101, 104, 107, 108, 110, 114, 116, 118, 119, 120, 122, 126, 127, 129, 131, 133, 134, 140, 141, 142, 145, 147, 150, 152, 155, 158, 161, 163, 171, 178], tyOf prog0 k = getAt tyL k := by
  simp only [List.forall_mem_cons]
  exact ⟨tyr1, tyr2, tyr3, tyr4, tyr5, tyr6, tyr8, tyr12, tyr15, tyr16, tyr17, tyr19, tyr20, tyr22, tyr24, tyr25, tyr27, tyr28, tyr30, tyr31, tyr34, tyr37, tyr39, tyr42, tyr46, tyr57, tyr60, tyr61, tyr63, tyr65, tyr66, tyr68, tyr71, tyr72, tyr74, tyr76, tyr77, tyr82, tyr84, tyr85, tyr88, tyr92, tyr97, tyr99, tyr101, tyr104, tyr107, tyr108, tyr110, tyr114, tyr116, tyr118, tyr119, tyr120, tyr122, tyr126, tyr127, tyr129, tyr131, tyr133, tyr134, tyr140, tyr141, tyr142, tyr145, tyr147, tyr150, tyr152, tyr155, tyr158, tyr161, tyr163, tyr171, tyr178, List.forall_mem_nil _⟩

theorem eqr2 : ∀ st ks, getAt eqL 2 = some (st, ks) → eqCells prog0 8 2 = some ks ∧ isStr prog0 2 = st ∧ prog0.eqGuardType prog0.depth 2 = false := fun _ _ h => by
  injection h with h; injection h with h1 h2; subst h1; subst h2
  exact ⟨by kernel_rfl, by kernel_rfl, by kernel_rfl⟩
theorem eqr3 : ∀ st ks, getAt eqL 3 = some (st, ks) → eqCells prog0 8 3 = some ks ∧ isStr prog0 3 = st ∧ prog0.eqGuardType prog0.depth 3 = false := fun _ _ h => by
  injection h with h; injection h with h1 h2; subst h1; subst h2
  exact ⟨by kernel_rfl, by kernel_rfl, by kernel_rfl⟩
theorem eqr4 : ∀ st ks, getAt eqL 4 = some (st, ks) → eqCells prog0 8 4 = some ks ∧ isStr prog0 4 = st ∧ prog0.eqGuardType prog0.depth 4 = false := fun _ _ h => by
  injection h with h; injection h with h1 h2; subst h1; subst h2
  exact ⟨by kernel_rfl, by kernel_rfl, by kernel_rfl⟩
theorem eqr5 : ∀ st ks, getAt eqL 5 = some (st, ks) → eqCells prog0 8 5 = some ks ∧ isStr prog0 5 = st ∧ prog0.eqGuardType prog0.depth 5 = false := fun _ _ h => by
  injection h with h; injection h with h1 h2; subst h1; subst h2
  exact ⟨by kernel_rfl, by kernel_rfl, by kernel_rfl⟩
theorem eqr6 : ∀ st ks, getAt eqL 6 = some (st, ks) → eqCells prog0 8 6 = some ks ∧ isStr prog0 6 = st ∧ prog0.eqGuardType prog0.depth 6 = false := fun _ _ h => by
  injection h with h; injection h with h1 h2; subst h1; subst h2
  exact ⟨by kernel_rfl, by kernel_rfl, by kernel_rfl⟩
theorem eqr8 : ∀ st ks, getAt eqL 8 = some (st, ks) → eqCells prog0 8 8 = some ks ∧ isStr prog0 8 = st ∧ prog0.eqGuardType prog0.depth 8 = false := fun _ _ h => by
  injection h with h; injection h with h1 h2; subst h1; subst h2
  exact ⟨by kernel_rfl, by kernel_rfl, by kernel_rfl⟩
theorem eqr12 : ∀ st ks, getAt eqL 12 = some (st, ks) → eqCells prog0 8 12 = some ks ∧ isStr prog0 12 = st ∧ prog0.eqGuardType prog0.depth 12 = false := fun _ _ h => by
  injection h with h; injection h with h1 h2; subst h1; subst h2
  exact ⟨by kernel_rfl, by kernel_rfl, by kernel_rfl⟩
theorem eqr24 : ∀ st ks, getAt eqL 24 = some (st, ks) → eqCells prog0 8 24 = some ks ∧ isStr prog0 24 = st ∧ prog0.eqGuardType prog0.depth 24 = false := fun _ _ h => by
  injection h with h; injection h with h1 h2; subst h1; subst h2
  exact ⟨by kernel_rfl, by kernel_rfl, by kernel_rfl⟩
theorem eqr39 : ∀ st ks, getAt eqL 39 = some (st, ks) → eqCells prog0 8 39 = some ks ∧ isStr prog0 39 = st ∧ prog0.eqGuardType prog0.depth 39 = false := fun _ _ h => by
  injection h with h; injection h with h1 h2; subst h1; subst h2
  exact ⟨by kernel_rfl, by kernel_rfl, by kernel_rfl⟩
theorem eqr42 : ∀ st ks, getAt eqL 42 = some (st, ks) → eqCells prog0 8 42 = some ks ∧ isStr prog0 42 = st ∧ prog0.eqGuardType prog0.depth 42 = false := fun _ _ h => by
  injection h with h; injection h with h1 h2; subst h1; subst h2
  exact ⟨by kernel_rfl, by kernel_rfl, by kernel_rfl⟩
theorem eqr57 : ∀ st ks, getAt eqL 57 = some (st, ks) → eqCells prog0 8 57 = some ks ∧ isStr prog0 57 = st ∧ prog0.eqGuardType prog0.depth 57 = false := fun _ _ h => by
  injection h with h; injection h with h1 h2; subst h1; subst h2
  exact ⟨by kernel_rfl, by kernel_rfl, by kernel_rfl⟩
theorem eqr65 : ∀ st ks, getAt eqL 65 = some (st, ks) → eqCells prog0 8 65 = some ks ∧ isStr prog0 65 = st ∧ prog0.eqGuardType prog0.depth 65 = false := fun _ _ h => by
  injection h with h; injection h with h1 h2; subst h1; subst h2
  exact ⟨by kernel_rfl, by kernel_rfl, by kernel_rfl⟩
theorem eqr66 : ∀ st ks, getAt eqL 66 = some (st, ks) → eqCells prog0 8 66 = some ks ∧ isStr prog0 66 = st ∧ prog0.eqGuardType prog0.depth 66 = false := fun _ _ h => by
  injection h with h; injection h with h1 h2; subst h1; subst h2
  exact ⟨by kernel_rfl, by kernel_rfl, by kernel_rfl⟩
theorem eqr71 : ∀ st ks, getAt eqL 71 = some (st, ks) → eqCells prog0 8 71 = some ks ∧ isStr prog0 71 = st ∧ prog0.eqGuardType prog0.depth 71 = false := fun _ _ h => by
  injection h with h; injection h with h1 h2; subst h1; subst h2
  exact ⟨by kernel_rfl, by kernel_rfl, by kernel_rfl⟩
theorem eqr88 : ∀ st ks, getAt eqL 88 = some (st, ks) → eqCells prog0 8 88 = some ks ∧ isStr prog0 88 = st ∧ prog0.eqGuardType prog0.depth 88 = false := fun _ _ h => by
  injection h with h; injection h with h1 h2; subst h1; subst h2
  exact ⟨by kernel_rfl, by kernel_rfl, by kernel_rfl⟩
theorem eqr92 : ∀ st ks, getAt eqL 92 = some (st, ks) → eqCells prog0 8 92 = some ks ∧ isStr prog0 92 = st ∧ prog0.eqGuardType prog0.depth 92 = false := fun _ _ h => by
  injection h with h; injection h with h1 h2; subst h1; subst h2
  exact ⟨by kernel_rfl, by kernel_rfl, by kernel_rfl⟩
theorem eqr104 : ∀ st ks, getAt eqL 104 = some (st, ks) → eqCells prog0 8 104 = some ks ∧ isStr prog0 104 = st ∧ prog0.eqGuardType prog0.depth 104 = false := fun _ _ h => by
  injection h with h; injection h with h1 h2; subst h1; subst h2
  exact ⟨by kernel_rfl, by kernel_rfl, by kernel_rfl⟩
theorem eqr108 : ∀ st ks, getAt eqL 108 = some (st, ks) → eqCells prog0 8 108 = some ks ∧ isStr prog0 108 = st ∧ prog0.eqGuardType prog0.depth 108 = false := fun _ _ h => by
  injection h with h; injection h with h1 h2; subst h1; subst h2
  exact ⟨by kernel_rfl, by kernel_rfl, by kernel_rfl⟩
theorem eqr110 : ∀ st ks, getAt eqL 110 = some (st, ks) → eqCells prog0 8 110 = some ks ∧ isStr prog0 110 = st ∧ prog0.eqGuardType prog0.depth 110 = false := fun _ _ h => by
  injection h with h; injection h with h1 h2; subst h1; subst h2
  exact ⟨by kernel_rfl, by kernel_rfl, by kernel_rfl⟩
theorem eqr114 : ∀ st ks, getAt eqL 114 = some (st, ks) → eqCells prog0 8 114 = some ks ∧ isStr prog0 114 = st ∧ prog0.eqGuardType prog0.depth 114 = false := fun _ _ h => by
  injection h with h; injection h with h1 h2; subst h1; subst h2
  exact ⟨by kernel_rfl, by kernel_rfl, by kernel_rfl⟩
theorem eqr126 : ∀ st ks, getAt eqL 126 = some (st, ks) → eqCells prog0 8 126 = some ks ∧ isStr prog0 126 = st ∧ prog0.eqGuardType prog0.depth 126 = false := fun _ _ h => by
  injection h with h; injection h with h1 h2; subst h1; subst h2
  exact ⟨by kernel_rfl, by kernel_rfl, by kernel_rfl⟩
theorem eqr127 : ∀ st ks, getAt eqL 127 = some (st, ks) → eqCells prog0 8 127 = some ks ∧ isStr prog0 127 = st ∧ prog0.eqGuardType prog0.depth 127 = false := fun _ _ h => by
  injection h with h; injection h with h1 h2; subst h1; subst h2
  exact ⟨by kernel_rfl, by kernel_rfl, by kernel_rfl⟩
theorem eqr129 : ∀ st ks, getAt eqL 129 = some (st, ks) → eqCells prog0 8 129 = some ks ∧ isStr prog0 129 = st ∧ prog0.eqGuardType prog0.depth 129 = false := fun _ _ h => by
  injection h with h; injection h with h1 h2; subst h1; subst h2
  exact ⟨by kernel_rfl, by kernel_rfl, by kernel_rfl⟩
theorem eqr150 : ∀ st ks, getAt eqL 150 = some (st, ks) → eqCells prog0 8 150 = some ks ∧ isStr prog0 150 = st ∧ prog0.eqGuardType prog0.depth 150 = false := fun _ _ h => by
  injection h with h; injection h with h1 h2; subst h1; subst h2
  exact ⟨by kernel_rfl, by kernel_rfl, by kernel_rfl⟩
theorem eqr152 : ∀ st ks, getAt eqL 152 = some (st, ks) → eqCells prog0 8 152 = some ks ∧ isStr prog0 152 = st ∧ prog0.eqGuardType prog0.depth 152 = false := fun _ _ h => by
  injection h with h; injection h with h1 h2; subst h1; subst h2
  exact ⟨by kernel_rfl, by kernel_rfl, by kernel_rfl⟩
theorem eqr161 : ∀ st ks, getAt eqL 161 = some (st, ks) → eqCells prog0 8 161 = some ks ∧ isStr prog0 161 = st ∧ prog0.eqGuardType prog0.depth 161 = false := fun _ _ h => by
  injection h with h; injection h with h1 h2; subst h1; subst h2
  exact ⟨by kernel_rfl, by kernel_rfl, by kernel_rfl⟩
theorem eqr163 : ∀ st ks, getAt eqL 163 = some (st, ks) → eqCells prog0 8 163 = some ks ∧ isStr prog0 163 = st ∧ prog0.eqGuardType prog0.depth 163 = false := fun _ _ h => by
  injection h with h; injection h with h1 h2; subst h1; subst h2
  exact ⟨by kernel_rfl, by kernel_rfl, by kernel_rfl⟩
theorem eqr171 : ∀ st ks, getAt eqL 171 = some (st, ks) → eqCells prog0 8 171 = some ks ∧ isStr prog0 171 = st ∧ prog0.eqGuardType prog0.depth 171 = false := fun _ _ h => by
  injection h with h; injection h with h1 h2; subst h1; subst h2
  exact ⟨by kernel_rfl, by kernel_rfl, by kernel_rfl⟩

theorem eq_rows : ∀ k ∈ [2, 3, 4, 5, 6, 8, 12, 24, 39, 42, 57, 65, 66, 71, 88, 92, 104, 108, 110, 114, 126, 127, 129, 150, 152, 161, 163, 171], ∀ st ks, getAt eqL k = some (st, ks) → eqCells prog0 8 k = some ks ∧ isStr prog0 k = st ∧ prog0.eqGuardType prog0.depth k = false := by
  simp only [List.forall_mem_cons]
  exact ⟨eqr2, eqr3, eqr4, eqr5, eqr6, eqr8, eqr12, eqr24, eqr39, eqr42, eqr57, eqr65, eqr66, eqr71, eqr88, eqr92, eqr104, eqr108, eqr110, eqr114, eqr126, eqr127, eqr129, eqr150, eqr152, eqr161, eqr163, eqr171, List.forall_mem_nil _⟩

set_option maxRecDepth 100000 in
theorem fn_rows : ∀ x ∈ fnL, prog0.funcs[x.1]? = some x.2 := by
  simp only [fnL, List.forall_mem_cons]
  exact ⟨Go.Proofs.Try.func0, Go.Proofs.Try.func1, Go.Proofs.Try.func2, Go.Proofs.Try.func3, Go.Proofs.Try.func4, Go.Proofs.Try.func5, Go.Proofs.Try.func6, Go.Proofs.Try.func7, Go.Proofs.Try.func8, Go.Proofs.Try.func9, Go.Proofs.Try.func10, Go.Proofs.Try.func11, Go.Proofs.Try.func12, Go.Proofs.Try.func13, Go.Proofs.Try.func14, Go.Proofs.Try.func15, Go.Proofs.Try.func16, Go.Proofs.Try.func17, Go.Proofs.Try.func18, Go.Proofs.Try.func19, Go.Proofs.Try.func20, Go.Proofs.Try.func21, Go.Proofs.Try.func22, Go.Proofs.Try.func23, Go.Proofs.Try.func24, Go.Proofs.Try.func25, Go.Proofs.Try.func26, Go.Proofs.Try.func27, Go.Proofs.Try.func28, Go.Proofs.Try.func29, Go.Proofs.Try.func30, Go.Proofs.Try.func31, Go.Proofs.Try.func32, Go.Proofs.Try.func33, Go.Proofs.Try.func34, Go.Proofs.Try.func35, Go.Proofs.Try.func36, Go.Proofs.Try.func37, Go.Proofs.Try.func38, Go.Proofs.Try.func39, Go.Proofs.Try.func40, Go.Proofs.Try.func41, Go.Proofs.Try.func42, Go.Proofs.Try.func43, Go.Proofs.Try.func44, Go.Proofs.Try.func45, Go.Proofs.Try.func46, Go.Proofs.Try.func47, Go.Proofs.Try.func48, Go.Proofs.Try.func49, Go.Proofs.Try.func50, Go.Proofs.Try.func51, Go.Proofs.Try.func52, Go.Proofs.Try.func53, Go.Proofs.Try.func54, Go.Proofs.Try.func55, Go.Proofs.Try.func56, Go.Proofs.Try.func57, Go.Proofs.Try.func58, Go.Proofs.Try.func59, Go.Proofs.Try.func60, Go.Proofs.Try.func61, Go.Proofs.Try.func62, Go.Proofs.Try.func63, Go.Proofs.Try.func64, Go.Proofs.Try.func65, Go.Proofs.Try.func66, Go.Proofs.Try.func67, Go.Proofs.Try.func68, Go.Proofs.Try.func69, Go.Proofs.Try.func70, Go.Proofs.Try.func71, Go.Proofs.Try.func72, Go.Proofs.Try.func73, Go.Proofs.Try.func74, Go.Proofs.Try.func75, Go.Proofs.Try.func76, Go.Proofs.Try.func77, Go.Proofs.Try.func78, Go.Proofs.Try.func79, Go.Proofs.Try.func80, Go.Proofs.Try.func81, Go.Proofs.Try.func82, Go.Proofs.Try.func83, Go.Proofs.Try.func84, Go.Proofs.Try.func85, Go.Proofs.Try.func86, Go.Proofs.Try.func87, Go.Proofs.Try.func88, Go.Proofs.Try.func89, Go.Proofs.Try.func90, Go.Proofs.Try.func91, Go.Proofs.Try.func92, Go.Proofs.Try.func93, Go.Proofs.Try.func94, Go.Proofs.Try.func95, Go.Proofs.Try.func96, Go.Proofs.Try.func97, Go.Proofs.Try.func98, Go.Proofs.Try.func99, Go.Proofs.Try.func100, Go.Proofs.Try.func101, Go.Proofs.Try.func102, Go.Proofs.Try.func103, Go.Proofs.Try.func104, Go.Proofs.Try.func105, Go.Proofs.Try.func106, Go.Proofs.Try.func107, Go.Proofs.Try.func108, Go.Proofs.Try.func109, Go.Proofs.Try.func110, Go.Proofs.Try.func111, Go.Proofs.Try.func112, List.forall_mem_nil _⟩

theorem meth_rows : (methL.all fun r => r.2.all fun p => methodOf prog0 r.1 p.1 == some p.2) = true := by kernel_rfl

theorem name_rows : (fnL.all fun x => x.2.name != "runtime.NumGoroutine") = true := by kernel_rfl

theorem code_rows : (fnL.all fun x => match x.2.body with
  | some b => codeOk x.2.ntmps b
  | none => true) = true := by kernel_rfl

theorem field_rows : (tyL.all fun x => match x.2.d with
  | .struct fs => fs.all fun p => (getAt tyL p.2).isSome
  | _ => true) = true := by kernel_rfl

theorem keys_ty : tyL.map (·.1) = [1, 2, 3, 4, 5, 6, 8, 12, 15, 16, 17, 19, 20, 22, 24, 25, 27, 28, 30, 31, 34, 37, 39, 42, 46, 57, 60, 61, 63, 65, 66, 68, 71, 72, 74, 76, 77, 82, 84, 85, 88, 92, 97, 99, 101, 104, 107, 108, 110, 114, 116, 118, 119, 120, 122, 126, 127, 129, 131, 133, 134, 140, 141, 142, 145, 147, 150, 152, 155, 158, 161, 163, 171, 178] := rfl
theorem keys_eq : eqL.map (·.1) = [2, 3, 4, 5, 6, 8, 12, 24, 39, 42, 57, 65, 66, 71, 88, 92, 104, 108, 110, 114, 126, 127, 129, 150, 152, 161, 163, 171] := rfl

theorem ok0 : Ok cfg0 prog0 where
  srt g h := absurd (show false = true from h) (by simp)
  cpt g h := absurd (show false = true from h) (by simp)
  ty t y h := by
    have h' : getAt tyL t = some y := h
    rw [ty_rows t (keys_ty ▸ List.mem_map.2 ⟨_, getAt_mem h', rfl⟩)]; exact h'
  eq t st ks h := by
    have h' : getAt eqL t = some (st, ks) := h
    exact eq_rows t (keys_eq ▸ List.mem_map.2 ⟨_, getAt_mem h', rfl⟩) st ks h'
  meth t n g h := by
    have h' : methT t n = some g := h
    unfold methT at h'
    cases e : getAt methL t with
    | none => rw [e] at h'; exact absurd h' (by simp)
    | some r =>
      rw [e] at h'
      have hm := getAt_mem e
      have ha := List.all_eq_true.1 meth_rows _ hm
      simp only [Option.map_eq_some_iff] at h'
      obtain ⟨p, hp, rfl⟩ := h'
      have h1 := List.find?_some hp
      have h2 := List.mem_of_find?_eq_some hp
      have h3 := List.all_eq_true.1 ha _ h2
      have e1 : p.1 = n := by simpa using h1
      subst e1
      simpa using h3
  glob g v h := by
    have h' : getAt globL g = some v := h
    exact getAt_mem h'
  fns g fn h := by
    have h' : getAt fnL g = some fn := h
    have hm := getAt_mem h'
    have hf := fn_rows (g, fn) hm
    refine ⟨hf, ?_, ?_⟩
    · have := List.all_eq_true.1 name_rows _ hm
      simpa using this
    · intro b hb
      have := List.all_eq_true.1 code_rows _ hm
      simpa only [hb] using this
  fields t y fs h hd x hx := by
    have h' : getAt tyL t = some y := h
    have := List.all_eq_true.1 field_rows _ (getAt_mem h')
    simp only [hd] at this
    exact Option.isSome_iff_exists.1 (List.all_eq_true.1 this _ hx)

end Go.Ab
/-
  The frame that every law of this kind shares: what was there is as it was, and more has been made.
-/
namespace Go.Ab
set_option linter.unusedSimpArgs false
set_option linter.unusedVariables false
open Go.ChangeShapes Go.RowKit

/-- A law, by the evaluator's limit. -/
theorem law_calls {C : Cfg} {P : Program} (ok : Ok C P) {f : FuncId} {args : List AV} {vals : List Value} {W : World} {H : Heap} {p : Option (AV × Bool)} (h : callFL C P false f args [] none = some ⟨.ret (.bool true), H, p⟩)
    (hg : GlobOk (Cx.start W)) (hr : RelL (Cx.start W) args vals) : Calls P f vals.toArray W fun e w' => e = .returned (.bool true) ∧ Below W.heap.size W w' := by
  obtain ⟨n, hn⟩ := lim_ex h
  exact calls_true ok hn rfl hg hr

theorem post_below {P : Program} {T : Type} {enc : TypeId × Value → T} {f : Func} {s : ChangeSpec} {apart fresh handsOn again : Bool} {W W' : World} {args : Array Value} {v : Value} {ds gs : List (DataW T)} {before pa pv : List MemPlace}
    (hW : DataW.Whole enc P f.params.toList s.vars apart W args.toList ds gs before)
    (hres : ∀ (b : Nat) (sp : Nat → Bool) (hd : Bool), DataW.TrodAll enc P W' b sp hd f.resultTypes.toList (v.resultList f.resultTypes.size) (s.fn T (ds ++ gs)).results [])
    (hargs : ∀ sp : Nat → Bool, (∀ p ∈ before, sp p.block = true) → DataW.TrodAll enc P W' 0 sp true f.params.toList args.toList (s.fn T (ds ++ gs)).args pa)
    (hvars : ∀ sp : Nat → Bool, (∀ p ∈ before, sp p.block = true) → DataW.TrodVars enc P W' sp s.vars (s.fn T (ds ++ gs)).vars pv)
    (hps : before = pa ++ pv) (hb : Below W.heap.size W W')
    (hok : ∀ (j : Nat) (t : TypeId) (r : Value), f.resultTypes[j]? = some t → (v.resultList f.resultTypes.size)[j]? = some r → Value.okWide P W' .any 0 t r) :
    s.post enc P f apart fresh handsOn again W args v W' := by
  have hold : ∀ p ∈ before, (fun b => decide (b < W.heap.size)) p.block = true := fun p hp => by simpa using hW.lt p hp
  have hlt : ∀ p ∈ before, p.block < W.heap.size := hW.lt
  refine ⟨ds, gs, before, [], pa, pv, hW, hres _ _ _, hargs _ hold, hvars _ hold, World.keptBut_mono (fun p hp => ⟨hp, ?_⟩) (hb.frame (fun p => p ∈ before)), fun _ => ?_⟩
  · rw [hps, List.mem_append] at hp
    exact Or.inr hp
  · obtain ⟨_, _, _, _, _, hz, hn⟩ := hW
    refine ⟨hok, _, _, ([] ++ pa) ++ pv, ⟨[] ++ pa, pv, trodAll_append (hargs _ (fun _ _ => rfl)) (hres _ _ _), hvars _ (fun _ _ => rfl), rfl, ?_, ?_⟩, ?_⟩
    · intro b off hp
      have hm : MemPlace.cell b off ∈ before := by rw [hps]; simpa using hp
      rw [hb.frozen (p := ⟨b, off, none⟩) (hlt _ hm)]
      exact hz b off hm
    · intro ha
      have := hn ha
      rw [hps] at this
      simpa using this
    · intro p hp _
      rw [hps]
      simpa using hp

end Go.Ab
/-
  From arguments that can be read as data to what the evaluator takes: integers, bools, structs and slices of such.
-/
namespace Go.Ab
set_option linter.unusedSimpArgs false
set_option linter.unusedVariables false
open Go.ChangeShapes Go.RowKit Go.WideShapes

/-- The shape of plain data. -/
inductive Sh where
  | int (k : IntKind)
  | bool
  | sl (agg : Bool) (e : Sh)
  | unit
  | cons (a r : Sh)

def aggTy (P : Program) (t : TypeId) : Bool :=
  match P.underlying t with
  | some (.struct _) => true
  | some (.array _ _) => true
  | _ => false

def shFields (P : Program) (rec : TypeId → Option Sh) (tot : Nat) : List Field → Nat → Option Sh
  | [], off => if off = tot then some .unit else none
  | f :: r, off =>
    if f.offset = off then
      match rec f.type, shFields P rec tot r (off + P.cellsOf f.type) with
      | some a, some b => some (.cons a b)
      | _, _ => none
    else none

def shRep : Nat → Sh → Sh
  | 0, _ => .unit
  | n + 1, s => .cons s (shRep n s)

def shOf (P : Program) : Nat → TypeId → Option Sh
  | 0, _ => none
  | n + 1, t =>
    match P.underlying t with
    | some (.int k) => some (.int k)
    | some .bool => some .bool
    | some (.slice e) => if 0 < P.cellsOf e then (shOf P n e).map (.sl (aggTy P e)) else none
    | some (.struct fs) => shFields P (shOf P n) (P.cellsOf t) fs.toList 0
    | some (.array k e) => if P.cellsOf t = k * P.cellsOf e then (shOf P n e).map (shRep k) else none
    | _ => none

def pack (agg : Bool) (cs : List AV) : AV := if agg then .agg cs else cs.headD .undef

def Shaped : Sh → List AV → Prop
  | .int k, l => ∃ n, l = [.int k n] ∧ (Lit.int k n).wf = true
  | .bool, l => ∃ b, l = [.bool b]
  | .sl agg e, l => ∃ f es, l = [.sl f es] ∧ ∀ x ∈ es, ∃ cs, Shaped e cs ∧ x = pack agg cs
  | .unit, l => l = []
  | .cons a r, l => ∃ x y, l = x ++ y ∧ Shaped a x ∧ Shaped r y

theorem rel_sl {c : Cx} {f : Bool} {es : List AV} {v : Value} : Rel c (.sl f es) v = (∃ a cap, v = .slice a es.length cap ∧ ((f = true → cap = es.length) ∧ es.length ≤ cap) ∧ (ltL 0 es = true ∧ ∀ x ∈ es, known x = true) ∧
      (es = [] ∨ ∃ b o sz ys, a = some ⟨b, o, none⟩ ∧ b < c.w.heap.size ∧ ¬ c.owned b ∧ RelL c es ys ∧ (∀ y ∈ ys, y.cells.size = sz) ∧ Lies c.w b o (flat ys))) := by
  rw [Rel]

theorem relL_one {c : Cx} {v : AV} {y : Value} (h : Rel c v y) : RelL c [v] [y] := by
  simp only [RelL]
  exact ⟨y, [], rfl, h, rfl⟩

/-- What is told of cells that have been read. -/
structure ReadOk (W : World) (sh : Sh) (cs : List Value) (avs : List AV) : Prop where
  rel : RelL (Cx.start W) avs cs
  shp : Shaped sh avs
  lt : ltL 0 avs = true
  sca : allScalar avs = true

section
variable {H : Type} {enc : TypeId × Value → H} {P : Program} {W : World}

theorem fields_read {rec : TypeId → Option Sh} {tot n : Nat} {cs : List Value} (hl : cs.length = tot)
    (ih : ∀ t sh, rec t = some sh → ∀ cs x, DataW.trod enc P W 0 (fun _ => true) true n t cs = some x → ∃ avs, ReadOk W sh cs avs) :
    ∀ (fs : List Field) (off : Nat) (sh : Sh), shFields P rec tot fs off = some sh →
      (∀ f ∈ fs, ∃ x, DataW.trod enc P W 0 (fun _ => true) true n f.type ((cs.drop f.offset).take (P.cellsOf f.type)) = some x) → ∃ avs, ReadOk W sh (cs.drop off) avs
  | [], off, sh, h, _ => by
    simp only [shFields] at h
    split at h
    · rename_i e
      injection h with h
      subst h
      exact ⟨[], by rw [List.drop_eq_nil_of_le (by omega)]; simp only [RelL], rfl, rfl, rfl⟩
    · cases h
  | f :: r, off, sh, h, hf => by
    simp only [shFields] at h
    split at h
    · rename_i e
      split at h
      · rename_i a b ha hb
        injection h with h
        subst h
        obtain ⟨x, hx⟩ := hf f (List.mem_cons_self ..)
        rw [e] at hx
        obtain ⟨avs, h1⟩ := ih f.type a ha _ x hx
        obtain ⟨bvs, h2⟩ := fields_read hl ih r _ b hb fun g hg => hf g (List.mem_cons_of_mem _ hg)
        refine ⟨avs ++ bvs, ?_, ⟨avs, bvs, rfl, h1.shp, h2.shp⟩, by rw [ltL_append, h1.lt, h2.lt]; rfl, by rw [allScalar_append, h1.sca, h2.sca]; rfl⟩
        have : cs.drop off = (cs.drop off).take (P.cellsOf f.type) ++ cs.drop (off + P.cellsOf f.type) := by
          rw [← List.drop_drop, List.take_append_drop]
        rw [this]
        exact RelL.append h1.rel h2.rel
      · cases h
    · cases h

theorem array_read {k sz : Nat} {e : TypeId} {she : Sh} {n : Nat} {cs : List Value} (hsz : P.cellsOf e = sz) (hl : cs.length = k * sz)
    (ih : ∀ cs x, DataW.trod enc P W 0 (fun _ => true) true n e cs = some x → ∃ avs, ReadOk W she cs avs)
    (hall : ∀ i, i < k → ∃ x, DataW.trod enc P W 0 (fun _ => true) true n e ((cs.drop (i * sz)).take sz) = some x) : ∀ j, j ≤ k → ∃ avs, ReadOk W (shRep j she) (cs.drop ((k - j) * sz)) avs
  | 0, _ => ⟨[], by rw [List.drop_eq_nil_of_le (by rw [hl]; exact Nat.le_refl _)]; simp only [RelL], rfl, rfl, rfl⟩
  | j + 1, hj => by
    obtain ⟨bvs, h2⟩ := array_read hsz hl ih hall j (by omega)
    obtain ⟨x, hx⟩ := hall (k - (j + 1)) (by omega)
    obtain ⟨avs, h1⟩ := ih _ _ hx
    refine ⟨avs ++ bvs, ?_, ⟨avs, bvs, rfl, h1.shp, h2.shp⟩, by rw [ltL_append, h1.lt, h2.lt]; rfl, by rw [allScalar_append, h1.sca, h2.sca]; rfl⟩
    have e1 : (k - j) * sz = (k - (j + 1)) * sz + sz := by
      rw [show k - j = (k - (j + 1)) + 1 by omega, Nat.add_mul, Nat.one_mul]
    have : cs.drop ((k - (j + 1)) * sz) = (cs.drop ((k - (j + 1)) * sz)).take sz ++ cs.drop ((k - j) * sz) := by
      rw [e1, ← List.drop_drop, List.take_append_drop]
    rw [this]
    exact RelL.append h1.rel h2.rel

theorem cells_single {y : Value} (h : ∀ cs, y ≠ .agg cs) : y.cells = #[y] := by
  cases y <;> first | rfl | exact absurd rfl (h _)

theorem elems_read {n sz : Nat} {e : TypeId} {sh : Sh} {agg : Bool} {b o : Nat} (hsz : P.cellsOf e = sz) (hpos : 0 < sz)
    (ih : ∀ cs x, DataW.trod enc P W 0 (fun _ => true) true n e cs = some x → ∃ avs, ReadOk W sh cs avs ∧ (agg = false → ∃ y, cs = [y] ∧ ∀ z, y ≠ .agg z)) {len : Nat}
    (hel : ∀ i, i < len → ∃ x, (W.cells? 0 (Addr.add ⟨b, o, none⟩ (i * sz)) sz).bind (DataW.trod enc P W 0 (fun _ => true) true n e) = some x) :
    ∀ j, j ≤ len → ∃ es ys, es.length = j ∧ RelL (Cx.start W) es ys ∧ (∀ y ∈ ys, y.cells.size = sz) ∧ Lies W b o (flat ys) ∧ ltL 0 es = true ∧ ∀ x ∈ es, known x = true ∧ ∃ cs, Shaped sh cs ∧ x = pack agg cs
  | 0, _ => ⟨[], [], rfl, by simp only [RelL], by simp, by intro k hk; simp [flat] at hk, rfl, by simp⟩
  | j + 1, hj => by
    obtain ⟨es, ys, h1, h2, h3, h4, h5, h6⟩ := elems_read hsz hpos ih hel j (by omega)
    obtain ⟨x, hx⟩ := hel j (by omega)
    rw [Option.bind_eq_some_iff] at hx
    obtain ⟨cs, hc, ht⟩ := hx
    obtain ⟨-, hcl, hcc⟩ := World.cells?_some hc
    obtain ⟨avs, hr, hs⟩ := ih cs x ht
    have hyl : ys.length = j := by rw [← h2.length, h1]
    have hfl : (flat ys).length = j * sz := by rw [flat_length h3, hyl]
    have hav : avs.length = sz := by rw [hr.rel.length, hcl]
    have key : ∃ z : Value, z.cells.toList = cs ∧ Rel (Cx.start W) (pack agg avs) z ∧ known (pack agg avs) = true ∧ (pack agg avs).lt 0 = true := by
      cases agg with
      | true =>
        refine ⟨.agg cs.toArray, by simp [Value.cells], ?_, ?_, ?_⟩
        · simp only [pack, if_true, Rel]
          exact ⟨cs.toArray, rfl, hr.rel⟩
        · simp only [pack, if_true, known, AV.cells, hr.sca]
        · simp only [pack, if_true, AV.lt, hr.lt]
      | false =>
        obtain ⟨y, rfl, hy⟩ := hs rfl
        have := hr.rel
        cases avs with
        | nil => simp at hcl hav; omega
        | cons a r =>
          simp only [RelL] at this
          obtain ⟨y', s', he, hra, hrr⟩ := this
          simp only [List.cons.injEq] at he
          obtain ⟨rfl, rfl⟩ := he
          have hs2 := hr.sca
          have hl2 := hr.lt
          simp only [allScalar, Bool.and_eq_true] at hs2
          simp only [ltL, Bool.and_eq_true] at hl2
          refine ⟨y, by rw [cells_single hy], by simpa only [pack, Bool.false_eq_true, if_false, List.headD_cons] using hra, ?_, by simpa only [pack, Bool.false_eq_true, if_false, List.headD_cons] using hl2.1⟩
          simp only [pack, Bool.false_eq_true, if_false, List.headD_cons, known]
          have : a.cells = [a] := by
            have := hs2.1
            cases a <;> simp only [AV.scalar] at this <;> first | rfl | cases this
          rw [this]; simp only [allScalar, hs2.1, Bool.and_self]
    obtain ⟨z, hz1, hz2, hz3, hz4⟩ := key
    refine ⟨es ++ [pack agg avs], ys ++ [z], by simp [h1], RelL.append h2 (by simp only [RelL]; exact ⟨z, [], rfl, hz2, rfl⟩), ?_, ?_, by rw [ltL_append, h5]; simp only [ltL, hz4, Bool.and_self], ?_⟩
    · intro y hy
      rcases List.mem_append.1 hy with hy | hy
      · exact h3 y hy
      · rw [List.mem_singleton] at hy
        subst hy
        rw [← Array.length_toList, hz1, hcl]
    · intro k hk
      rw [flat_append] at hk ⊢
      have hfz : flat [z] = cs := by simp [flat, hz1]
      rw [hfz] at hk ⊢
      rw [List.length_append, hfl, hcl] at hk
      rcases Nat.lt_or_ge k (j * sz) with hlt | hge
      · rw [List.getElem?_append_left (by omega)]
        exact h4 k (by omega)
      · rw [List.getElem?_append_right (by omega), hfl]
        have := hcc (k - j * sz) (by omega)
        rw [add_plain, add_plain] at this
        rw [← this]
        congr 2
        omega
    · intro x' hx'
      rcases List.mem_append.1 hx' with hx' | hx'
      · exact h6 x' hx'
      · rw [List.mem_singleton] at hx'
        subst hx'
        exact ⟨hz3, avs, hr.shp, rfl⟩

theorem aggTy_false {e : TypeId} (h : aggTy P e = false) {n : Nat} {sh : Sh} (hsh : shOf P n e = some sh) {m : Nat} {cs : List Value} {x : DataW H × List MemPlace} (ht : DataW.trod enc P W 0 (fun _ => true) true m e cs = some x) : ∃ y, cs = [y] ∧ ∀ z, y ≠ .agg z := by
  cases n with
  | zero => simp [shOf] at hsh
  | succ n =>
    simp only [shOf] at hsh
    split at hsh
    · rename_i hu
      obtain ⟨k, rfl, -, -⟩ := DataW.trod_int hu ht
      exact ⟨_, rfl, fun z hz => by cases hz⟩
    · rename_i hu
      obtain ⟨k, rfl, -⟩ := DataW.trod_bool hu ht
      exact ⟨_, rfl, fun z hz => by cases hz⟩
    · rename_i hu
      rcases DataW.trod_slice hu ht with ⟨rfl, -⟩ | ⟨a, len, cap, _, _, _, _, rfl, _⟩
      · exact ⟨_, rfl, fun z hz => by cases hz⟩
      · exact ⟨_, rfl, fun z hz => by cases hz⟩
    · rename_i hu
      simp [aggTy, hu] at h
    · rename_i hu
      simp [aggTy, hu] at h
    · cases hsh

theorem reads : ∀ (n : Nat) (t : TypeId) (sh : Sh), shOf P n t = some sh → ∀ (m : Nat) (cs : List Value) (x : DataW H × List MemPlace), DataW.trod enc P W 0 (fun _ => true) true m t cs = some x → ∃ avs, ReadOk W sh cs avs
  | 0, t, sh, h, _, _, _, _ => by simp [shOf] at h
  | n + 1, t, sh, h, m, cs, x, hx => by
    simp only [shOf] at h
    split at h
    · rename_i k hu
      injection h with h; subst h
      obtain ⟨z, rfl, -, hw⟩ := DataW.trod_int hu hx
      exact ⟨[.int k z], by simp only [RelL, Rel]; exact ⟨_, [], rfl, rfl, rfl⟩, ⟨z, rfl, hw⟩, rfl, rfl⟩
    · rename_i hu
      injection h with h; subst h
      obtain ⟨z, rfl, -⟩ := DataW.trod_bool hu hx
      exact ⟨[.bool z], by simp only [RelL, Rel]; exact ⟨_, [], rfl, rfl, rfl⟩, ⟨z, rfl⟩, rfl, rfl⟩
    · rename_i e hu
      split at h
      · rename_i hpos
        rw [Option.map_eq_some_iff] at h
        obtain ⟨she, he, rfl⟩ := h
        rcases DataW.trod_slice hu hx with ⟨rfl, -⟩ | ⟨a, len, cap, elems, rest, m', hm, rfl, -, -, hle, hcap, hel, hall, -, -⟩
        · refine ⟨[.sl true []], relL_one (by rw [rel_sl]; exact ⟨none, 0, rfl, ⟨fun _ => rfl, Nat.le_refl _⟩, ⟨rfl, by simp⟩, .inl rfl⟩), ⟨true, [], rfl, by simp⟩, rfl, rfl⟩
        · rcases Nat.eq_zero_or_pos len with h0 | h0
          · subst h0
            refine ⟨[.sl false []], relL_one (by rw [rel_sl]; exact ⟨some a, cap, rfl, ⟨fun h => by simp at h, Nat.zero_le _⟩, ⟨rfl, by simp⟩, .inl rfl⟩), ⟨false, [], rfl, by simp⟩, rfl, rfl⟩
          · obtain ⟨b, o, spot⟩ := a
            have hel' : ∀ i, i < len → ∃ x, (W.cells? 0 (Addr.add ⟨b, o, spot⟩ (i * P.cellsOf e)) (P.cellsOf e)).bind (DataW.trod enc P W 0 (fun _ => true) true m' e) = some x := by
              intro i hi
              rw [hall i hi]
              exact ⟨elems[i]'(by omega), List.getElem?_eq_getElem (by omega)⟩
            have hb0 : b < W.heap.size ∧ spot = none := by
              obtain ⟨y, hy⟩ := hel' 0 h0
              rw [Option.bind_eq_some_iff] at hy
              obtain ⟨c0, hc0, -⟩ := hy
              obtain ⟨-, hl0, hg0⟩ := World.cells?_some hc0
              have g := hg0 0 hpos
              rw [List.getElem?_eq_getElem (by omega)] at g
              have hsp : spot = none := by simpa [Addr.add] using World.cell?_spot g
              subst hsp
              refine ⟨?_, rfl⟩
              rw [add_plain, add_plain] at g
              simp only [World.cell?] at g
              refine Nat.lt_of_not_le fun hle => ?_
              have : W.heap[b]? = none := by simp [hle]
              simp [this] at g
            obtain ⟨hb, rfl⟩ := hb0
            obtain ⟨es, ys, h1, h2, h3, h4, h5, h6⟩ := elems_read (sh := she) (agg := aggTy P e) rfl hpos (fun cs x hx => by
              obtain ⟨avs, ha⟩ := reads n e she he m' cs x hx
              exact ⟨avs, ha, fun hf => aggTy_false hf he hx⟩) hel' len (Nat.le_refl _)
            refine ⟨[.sl false es], ?_, ⟨false, es, rfl, fun x hx => (h6 x hx).2⟩, rfl, rfl⟩
            refine relL_one ?_
            rw [rel_sl]
            refine ⟨some ⟨b, o, none⟩, cap, by rw [h1], ⟨fun h => by simp at h, by omega⟩, ⟨h5, fun x hx => (h6 x hx).1⟩, .inr ⟨b, o, P.cellsOf e, ys, rfl, hb, ?_, h2, h3, h4⟩⟩
            rintro ⟨l, hl⟩
            cases hl
      · cases h
    · rename_i fs hu
      obtain ⟨xs, m', rfl, -, hl, hfl, hall⟩ := DataW.trod_struct hu hx
      have := fields_read (enc := enc) (P := P) (W := W) (rec := shOf P n) (tot := P.cellsOf t) (n := m') (cs := cs) hl (fun t sh h cs x hx => reads n t sh h m' cs x hx) fs.toList 0 sh h (by
        intro f hf
        obtain ⟨i, hi⟩ := List.mem_iff_getElem?.1 hf
        have hi' : fs[i]? = some f := by simpa using hi
        have hlt : i < xs.length := by
          have := (List.getElem?_eq_some_iff.1 hi).1
          simp at this; omega
        exact ⟨xs[i], by rw [hall i f hi', List.getElem?_eq_getElem hlt]⟩)
      simpa using this
    · rename_i k e hu
      split at h
      · rename_i hc
        rw [Option.map_eq_some_iff] at h
        obtain ⟨she, he, rfl⟩ := h
        obtain ⟨xs, m', rfl, -, hl, hxl, hall⟩ := DataW.trod_array hu hx
        have := array_read (enc := enc) (P := P) (W := W) (she := she) (n := m') (cs := cs) (k := k) rfl (by rw [hl, hc]) (fun cs x hx => reads n e she he m' cs x hx) (fun i hi => ⟨xs[i]'(by omega), by rw [hall i hi, List.getElem?_eq_getElem (by omega)]⟩) k (Nat.le_refl _)
        simpa using this
      · cases h
    · cases h

/-- A struct that is handed in. -/
theorem arg_agg {t : TypeId} {fs : Array Field} {n : Nat} {sh : Sh} {r : Reach} {b0 : Nat} {v : Value} {d : DataW H} {ps : List MemPlace} (hu : P.underlying t = some (.struct fs)) (hsh : shOf P n t = some sh) (hval : Value.okWide P W r b0 t v) (hd : DataW.Trod enc P W 0 (fun _ => true) true t v d ps) :
    ∃ avs, Rel (Cx.start W) (.agg avs) v ∧ Shaped sh avs := by
  obtain ⟨cs, rfl, -⟩ := okWide_struct hu hval
  obtain ⟨m, hm⟩ := hd
  obtain ⟨avs, h⟩ := reads n t sh hsh m _ _ hm
  refine ⟨avs, ?_, h.shp⟩
  simp only [Rel]
  exact ⟨cs, rfl, h.rel⟩

/-- A slice that is handed in. -/
theorem arg_sl {t e : TypeId} {n : Nat} {agg : Bool} {she : Sh} {r : Reach} {b0 : Nat} {v : Value} {d : DataW H} {ps : List MemPlace} (hu : P.underlying t = some (.slice e)) (hsh : shOf P n t = some (.sl agg she)) (hval : Value.okWide P W r b0 t v) (hd : DataW.Trod enc P W 0 (fun _ => true) true t v d ps) :
    ∃ f es, Rel (Cx.start W) (.sl f es) v ∧ ∀ x ∈ es, ∃ cs, Shaped she cs ∧ x = pack agg cs := by
  obtain ⟨a, len, cap, rfl⟩ := okWide_slice hu hval
  obtain ⟨m, hm⟩ := hd
  obtain ⟨avs, h⟩ := reads n t _ hsh m _ _ hm
  obtain ⟨f, es, rfl, hs⟩ := h.shp
  have hr := h.rel
  rw [RelL] at hr
  obtain ⟨y, s, he, hy, -⟩ := hr
  simp only [Value.cells, List.cons.injEq] at he
  obtain ⟨rfl, -⟩ := he
  exact ⟨f, es, hy, hs⟩

/-- A reading, behind the call. -/
theorem trod_keep {t : TypeId} (hl : laidOutB P = true) (hr : P.readableRec t = true) (hrow : t < P.types.size) {W' : World} {v : Value} {d : DataW H} {ps : List MemPlace} {sp : Nat → Bool}
    (h : DataW.Trod enc P W 0 (fun _ => true) true t v d ps) (hb : Below W.heap.size W W') (hlt : ∀ x ∈ ps, x.block < W.heap.size) (hs : ∀ x ∈ ps, sp x.block = true) :
    DataW.Trod enc P W' 0 sp true t v d ps :=
  WideElems.Trod_stays hl hr hrow h (fun x hx => hb.same (hlt x hx)) hs

theorem trodAll_keep (hl : laidOutB P = true) {W' : World} {sp : Nat → Bool} (hb : Below W.heap.size W W') : ∀ {ts : List TypeId} {vs : List Value} {ds : List (DataW H)} {ps : List MemPlace}, (∀ t ∈ ts, P.readableRec t = true ∧ t < P.types.size) →
    DataW.TrodAll enc P W 0 (fun _ => true) true ts vs ds ps → (∀ x ∈ ps, x.block < W.heap.size) → (∀ x ∈ ps, sp x.block = true) → DataW.TrodAll enc P W' 0 sp true ts vs ds ps
  | [], [], [], _, _, h, _, _ => h
  | t :: ts, v :: vs, d :: ds, _, ht, ⟨p, q, h1, h2, e⟩, hlt, hs =>
    ⟨p, q, trod_keep hl (ht t (List.mem_cons_self ..)).1 (ht t (List.mem_cons_self ..)).2 h1 hb (fun x hx => hlt x (by rw [e]; exact List.mem_append_left _ hx)) (fun x hx => hs x (by rw [e]; exact List.mem_append_left _ hx)),
      trodAll_keep hl hb (fun t ht' => ht t (List.mem_cons_of_mem _ ht')) h2 (fun x hx => hlt x (by rw [e]; exact List.mem_append_right _ hx)) (fun x hx => hs x (by rw [e]; exact List.mem_append_right _ hx)), e⟩

end

/-- Elements, each of a kind, are a list of that kind. -/
theorem list_of {α : Type} {f : α → AV} : ∀ {es : List AV}, (∀ x ∈ es, ∃ a, x = f a) → ∃ l : List α, es = l.map f
  | [], _ => ⟨[], rfl⟩
  | x :: r, h => by
    obtain ⟨a, rfl⟩ := h x (List.mem_cons_self ..)
    obtain ⟨l, rfl⟩ := list_of fun y hy => h y (List.mem_cons_of_mem _ hy)
    exact ⟨a :: l, rfl⟩

end Go.Ab
/-
  Facts with conditions, for a walk whose conditions are discharged.
-/
namespace Go.Ab
open Go.Proofs
set_option linter.unusedSimpArgs false
set_option linter.unusedVariables false
set_option maxRecDepth 100000

variable {H : Heap}

abbrev I (n : Int) : AV := .int .i64 n

theorem w64 {n : Int} (h1 : -9223372036854775808 ≤ n) (h2 : n < 9223372036854775808) : IntKind.i64.wrap n = n := by
  simp only [IntKind.wrap, IntKind.bits, IntKind.signed]
  have e : (2 : Int) ^ 64 = 18446744073709551616 := by decide
  have e' : (2 : Int) ^ (64 - 1) = 9223372036854775808 := by decide
  simp only [Bool.true_and, decide_eq_true_eq, e, e']
  split <;> omega

theorem i64ok {n : Int} (h : -9223372036854775808 ≤ n ∧ n < 9223372036854775808) : IntKind.i64.wrap n = n := w64 h.1 h.2
theorem i64nat {n : Nat} (h : (n : Int) < 9223372036854775807) : IntKind.i64.wrap ((n : Int) + 1) = ((n + 1 : Nat) : Int) := by rw [w64 (by omega) (by omega)]; rfl
theorem ltT {a b : Int} (h : a < b) : (a < b) = True := eq_true h
theorem ltF {a b : Int} (h : ¬ a < b) : (a < b) = False := eq_false h
theorem leT {a b : Int} (h : a ≤ b) : (a ≤ b) = True := eq_true h
theorem leF {a b : Int} (h : ¬ a ≤ b) : (a ≤ b) = False := eq_false h

theorem SlOk.fI {v : AV} {xs : List Int} (h : SlOk H 1 v (xs.map I)) :
   (∀ (G : Heap) (te : Ty) (k : Int), te.size = 1 → (0 ≤ k ∧ k < xs.length) → idxAddr (H ++ G) te v k = some (elA v k 0)) ∧ 
   (∀ (te : Ty) (k : Int), te.size = 1 → (0 ≤ k ∧ k < xs.length) → idxAddr H te v k = some (elA v k 0)) ∧ 
   (∀ (G : Heap) (te : Ty) (k : Int), (0 ≤ k ∧ k < xs.length) → evLoad (H ++ G) te (elA v k 0) = readPart [I (xs.getD k.toNat 0)] 0 te) ∧
   (∀ (te : Ty) (k : Int), (0 ≤ k ∧ k < xs.length) → evLoad H te (elA v k 0) = readPart [I (xs.getD k.toNat 0)] 0 te) := by
  have key : ∀ k : Int, (0 ≤ k ∧ k < xs.length) → (xs.map I)[k.toNat]? = some (I (xs.getD k.toNat 0)) := by
    intro k hk
    have : k.toNat < xs.length := by omega
    simp [this]
  refine ⟨fun G te k hs hk => ?_, fun te k hs hk => ?_, fun G te k hk => ?_, fun te k hk => ?_⟩
  · exact (h.at hk.1 (key k hk)).2.2.2.1 G te hs
  · exact (h.at hk.1 (key k hk)).1 te hs
  · rw [(h.at hk.1 (key k hk)).2.2.2.2 G 0 te]; rfl
  · rw [(h.at hk.1 (key k hk)).2.1 0 te]; rfl

theorem readOf_makeMap {C : Cfg} {e : Env} {t : TypeId} {m : Option Operand} : readOf C e (.makeMap t m) = none := rfl
theorem readOf_makeSlice {C : Cfg} {e : Env} {t : TypeId} {a b : Operand} : readOf C e (.makeSlice t a b) = none := rfl
theorem readOf_box {C : Cfg} {e : Env} {t : TypeId} {a : Operand} : readOf C e (.box t a) = none := rfl

attribute [go_sem] i64ok i64nat Int.toNat_natCast Nat.mul_one List.length_map decide_true decide_false Bool.true_and Bool.and_true Bool.false_and Bool.and_false Bool.true_or Bool.or_true Bool.false_or Bool.or_false Bool.not_true Bool.not_false Bool.not_not Option.isSome_none Option.isSome_some readOf_makeMap readOf_makeSlice readOf_box List.append_eq

end Go.Ab
/-
  Plain loops: what a loop with an early end finds, and what a loop gathers.
-/
namespace Go.Ab
set_option linter.unusedSimpArgs false
set_option linter.unusedVariables false

/-- Does f hold of one of the q numbers from j on? -/
def anyF (f : Nat → Bool) : Nat → Nat → Bool
  | _, 0 => false
  | j, q + 1 => f j || anyF f (j + 1) q

/-- The first that f yields, of the q numbers from j on. -/
def findF {α : Type} (f : Nat → Option α) : Nat → Nat → Option α
  | _, 0 => none
  | j, q + 1 => match f j with
    | some x => some x
    | none => findF f (j + 1) q

/-- What is gathered over the q numbers from j on. -/
def foldF {β : Type} (g : β → Nat → β) : β → Nat → Nat → β
  | b, _, 0 => b
  | b, j, q + 1 => foldF g (g b j) (j + 1) q

theorem anyF_iff (f : Nat → Bool) : ∀ (q j : Nat), anyF f j q = true ↔ ∃ i, j ≤ i ∧ i < j + q ∧ f i = true
  | 0, j => by simp [anyF]; intro x h1 h2; omega
  | q + 1, j => by
    simp only [anyF, Bool.or_eq_true, anyF_iff f q (j + 1)]
    constructor
    · rintro (h | ⟨i, h1, h2, h3⟩)
      · exact ⟨j, by omega, by omega, h⟩
      · exact ⟨i, by omega, by omega, h3⟩
    · rintro ⟨i, h1, h2, h3⟩
      by_cases e : i = j
      · subst e; exact .inl h3
      · exact .inr ⟨i, by omega, by omega, h3⟩

theorem anyF_false (f : Nat → Bool) (q j : Nat) : anyF f j q = false ↔ ∀ i, j ≤ i → i < j + q → f i = false := by
  rw [← Bool.not_eq_true, anyF_iff]
  constructor
  · intro h i h1 h2
    rw [← Bool.not_eq_true]
    intro h3
    exact h ⟨i, h1, h2, h3⟩
  · rintro h ⟨i, h1, h2, h3⟩
    rw [h i h1 h2] at h3
    cases h3

theorem foldF_inv {β : Type} (g : β → Nat → β) (P : Nat → β → Prop) : ∀ (q j : Nat) (b : β), P j b → (∀ i b, j ≤ i → i < j + q → P i b → P (i + 1) (g b i)) → P (j + q) (foldF g b j q)
  | 0, j, b, h, _ => by simpa [foldF] using h
  | q + 1, j, b, h, hs => by
    have := foldF_inv g P q (j + 1) (g b j) (hs j b (by omega) (by omega) h) (fun i b h1 h2 => hs i b (by omega) (by omega))
    rw [show j + (q + 1) = j + 1 + q by omega]
    exact this

end Go.Ab
/-
  Bits: sets as numbers.
-/
namespace Go.Ab
open Go.Proofs
set_option linter.unusedSimpArgs false
set_option linter.unusedVariables false
set_option maxRecDepth 100000

variable {H : Heap}

abbrev U (n : Nat) : AV := .int .u64 (n : Int)

theorem wrapU {n : Nat} (h : n < 18446744073709551616) : IntKind.u64.wrap (n : Int) = n := by
  simp only [IntKind.wrap, IntKind.bits, IntKind.signed]
  have e : (2 : Int) ^ 64 = 18446744073709551616 := by decide
  simp only [e, Bool.false_and]
  simp
  omega

theorem ofIntN {n : Nat} (hn : n < 2 ^ 63) : (BitVec.ofInt 64 (n : Int)).toNat = n := by
  rw [BitVec.ofInt_natCast, BitVec.toNat_ofNat, Nat.mod_eq_of_lt (by omega)]

theorem bitsOr {a b : Nat} (ha : a < 2 ^ 63) (hb : b < 2 ^ 63) : bitsOp .or .u64 (a : Int) (b : Int) = some ((a ||| b : Nat) : Int) := by
  have h := Nat.or_lt_two_pow ha hb
  show some (IntKind.u64.wrap (((BitVec.ofInt 64 (a : Int) ||| BitVec.ofInt 64 (b : Int)) : BitVec 64).toNat : Int)) = _
  rw [BitVec.toNat_or, ofIntN ha, ofIntN hb, wrapU (by omega)]

theorem bitsAnd {a b : Nat} (ha : a < 2 ^ 63) (hb : b < 2 ^ 63) : bitsOp .and .u64 (a : Int) (b : Int) = some ((a &&& b : Nat) : Int) := by
  have h : a &&& b ≤ a := Nat.and_le_left
  show some (IntKind.u64.wrap (((BitVec.ofInt 64 (a : Int) &&& BitVec.ofInt 64 (b : Int)) : BitVec 64).toNat : Int)) = _
  rw [BitVec.toNat_and, ofIntN ha, ofIntN hb, wrapU (by omega)]

theorem bitsAndI {a b : Nat} (ha : a < 2 ^ 63) (hb : b < 2 ^ 63) : bitsOp .and .i64 (a : Int) (b : Int) = some ((a &&& b : Nat) : Int) := by
  have h : a &&& b ≤ a := Nat.and_le_left
  show some (IntKind.i64.wrap (((BitVec.ofInt 64 (a : Int) &&& BitVec.ofInt 64 (b : Int)) : BitVec 64).toNat : Int)) = _
  rw [BitVec.toNat_and, ofIntN ha, ofIntN hb, w64 (by omega) (by omega)]

/-- A set without another one. -/
def diffN (a b : Nat) : Nat := a ^^^ (a &&& b)

theorem diffN_bit (a b i : Nat) : (diffN a b).testBit i = (a.testBit i && !b.testBit i) := by
  simp only [diffN, Nat.testBit_xor, Nat.testBit_and]
  cases a.testBit i <;> cases b.testBit i <;> rfl

theorem andNotV (x y : BitVec 64) : x &&& ~~~y = x ^^^ (x &&& y) := by
  ext i h
  simp
  cases x[i] <;> cases y[i] <;> rfl

theorem diffN_lt {a b n : Nat} (h : a < 2 ^ n) : diffN a b < 2 ^ n := Nat.xor_lt_two_pow h (Nat.lt_of_le_of_lt Nat.and_le_left h)

theorem bitsNot {a b : Nat} (ha : a < 2 ^ 63) (hb : b < 2 ^ 63) : bitsOp .andNot .u64 (a : Int) (b : Int) = some ((diffN a b : Nat) : Int) := by
  have h := diffN_lt (b := b) ha
  show some (IntKind.u64.wrap (((BitVec.ofInt 64 (a : Int) &&& ~~~BitVec.ofInt 64 (b : Int)) : BitVec 64).toNat : Int)) = _
  rw [andNotV, BitVec.toNat_xor, BitVec.toNat_and, ofIntN ha, ofIntN hb]
  exact congrArg some (wrapU (by simp only [diffN] at h; omega))

theorem two_pow_lt {k n : Nat} (h : k < n) : 2 ^ k < 2 ^ n := Nat.pow_lt_pow_right (by omega) h

theorem shlU {k : Nat} (hk : k ≤ 60) : IntKind.u64.wrap (1 * 2 ^ (min k 64)) = ((2 ^ k : Nat) : Int) := by
  have h := two_pow_lt (show k < 61 by omega)
  rw [Nat.min_eq_left (by omega), Int.one_mul, show (2 : Int) ^ k = ((2 ^ k : Nat) : Int) by rw [Int.natCast_pow]; rfl]
  exact wrapU (by omega)

theorem fdivN (x k : Nat) : (x : Int).fdiv (k : Int) = ((x / k : Nat) : Int) := by rw [Int.fdiv_eq_ediv_of_nonneg _ (Int.natCast_nonneg _)]; rfl

theorem shrN {s j : Nat} (hj : j ≤ 60) : (s : Int).fdiv (2 ^ min j 64) = ((s / 2 ^ j : Nat) : Int) := by
  rw [← fdivN, Nat.min_eq_left (by omega), Int.natCast_pow]
  rfl

theorem and_one {s j : Nat} : (((s / 2 ^ j &&& 1 : Nat) : Int) == 1) = s.testBit j := by
  rw [Nat.and_one_is_mod, Nat.testBit_eq_decide_div_mod_eq]
  have : s / 2 ^ j % 2 = 0 ∨ s / 2 ^ j % 2 = 1 := by omega
  rcases this with h | h <;> rw [h] <;> rfl

theorem div_lt {s j n : Nat} (h : s < n) : s / 2 ^ j < n := Nat.lt_of_le_of_lt (Nat.div_le_self _ _) h

/-- A bit that is looked at: of an unsigned number, of a signed one. -/
theorem bitU {s j : Nat} (hs : s < 2 ^ 60) : bitsOp .and .u64 ((s / 2 ^ j : Nat) : Int) 1 = some ((s / 2 ^ j &&& 1 : Nat) : Int) :=
  bitsAnd (b := 1) (div_lt (by omega)) (by decide)
theorem bitI {s j : Nat} (hs : s < 2 ^ 60) : bitsOp .and .i64 ((s / 2 ^ j : Nat) : Int) 1 = some ((s / 2 ^ j &&& 1 : Nat) : Int) :=
  bitsAndI (b := 1) (div_lt (by omega)) (by decide)

/-- The set of the numbers below n that f holds of. -/
def maskN (f : Nat → Bool) : Nat → Nat
  | 0 => 0
  | n + 1 => maskN f n ||| (if f n then 2 ^ n else 0)

theorem maskN_lt (f : Nat → Bool) : ∀ n, maskN f n < 2 ^ n
  | 0 => by simp [maskN]
  | n + 1 => by
    have h1 := maskN_lt f n
    have h2 : (2 : Nat) ^ n < 2 ^ (n + 1) := Nat.pow_lt_pow_right (by omega) (by omega)
    simp only [maskN]
    apply Nat.or_lt_two_pow (by omega)
    split <;> omega

theorem maskN_bit (f : Nat → Bool) (i : Nat) : ∀ n, (maskN f n).testBit i = (decide (i < n) && f i)
  | 0 => by simp [maskN]
  | n + 1 => by
    simp only [maskN, Nat.testBit_or, maskN_bit f i n]
    rcases Nat.lt_trichotomy i n with h | h | h
    · have e : (2 ^ n).testBit i = false := by rw [Nat.testBit_two_pow]; simp; omega
      split <;> simp [e, h, Nat.lt_succ_of_lt h]
    · subst h
      cases hf : f i <;> simp
    · have e : (2 ^ n).testBit i = false := by rw [Nat.testBit_two_pow]; simp; omega
      have e2 : ¬ i < n + 1 := by omega
      have e3 : ¬ i < n := by omega
      split <;> simp [e, e2, e3]

end Go.Ab
/-
  General helpers.
-/
namespace Go.Ab
open Go.Proofs
set_option linter.unusedSimpArgs false
set_option linter.unusedVariables false
set_option maxRecDepth 100000
set_option maxHeartbeats 2000000

variable {H : Heap}

/-- Is a number from one to another one? -/
def wi (n lo hi : Int) : Bool := decide (lo ≤ n) && decide (n ≤ hi)

theorem scal_cells {x : AV} (hx : x.scalar = true) : x.cells = [x] := by cases x <;> first | rfl | cases hx

theorem allScalar_map {α : Type} {f : α → AV} (h : ∀ x, (f x).scalar = true) : ∀ l : List α, allScalar (l.map f) = true
  | [] => rfl
  | x :: r => by simp only [List.map_cons, allScalar, h x, allScalar_map h r, Bool.and_self]

theorem ltI {N : Nat} (l : List Int) : ltL N (l.map I) = true := ltL_map (fun _ => rfl) l

theorem sealI {N : Nat} : ∀ l : List Int, List.map (sealG H N) (l.map I) = l.map I
  | [] => rfl
  | x :: r => by rw [List.map_cons, List.map_cons, sealI r]; rfl

theorem SlOk.fF {α : Type} {f : α → AV} {d : α} {sz : Nat} {v : AV} {xs : List α} (h : SlOk H sz v (xs.map f)) :
   (∀ (G : Heap) (te : Ty) (k : Int), te.size = sz → (0 ≤ k ∧ k < xs.length) → idxAddr (H ++ G) te v k = some (elA v k 0)) ∧
   (∀ (te : Ty) (k : Int), te.size = sz → (0 ≤ k ∧ k < xs.length) → idxAddr H te v k = some (elA v k 0)) ∧
   (∀ (G : Heap) (te : Ty) (k : Int) (off : Nat), (0 ≤ k ∧ k < xs.length) → evLoad (H ++ G) te (elA v k off) = readPart (f (xs.getD k.toNat d)).cells off te) ∧
   (∀ (te : Ty) (k : Int) (off : Nat), (0 ≤ k ∧ k < xs.length) → evLoad H te (elA v k off) = readPart (f (xs.getD k.toNat d)).cells off te) ∧
   (∀ (k : Int) (off o : Nat), addOff (elA v k off) o = some (elA v k (off + o))) := by
  have key : ∀ k : Int, (0 ≤ k ∧ k < xs.length) → (xs.map f)[k.toNat]? = some (f (xs.getD k.toNat d)) := by
    intro k hk
    have : k.toNat < xs.length := by omega
    simp [this]
  refine ⟨fun G te k hs hk => ?_, fun te k hs hk => ?_, fun G te k off hk => ?_, fun te k off hk => ?_, fun k off o => addOff_elA h⟩
  · exact (h.at hk.1 (key k hk)).2.2.2.1 G te hs
  · exact (h.at hk.1 (key k hk)).1 te hs
  · rw [(h.at hk.1 (key k hk)).2.2.2.2 G off te]
  · rw [(h.at hk.1 (key k hk)).2.1 off te]

theorem SlOk.seal {sz : Nat} {v : AV} {xs : List AV} (h : SlOk H sz v xs) (A : Heap) : sealG A H.length v = v := by
  have hl := h.lt0
  obtain ⟨h1, _⟩ := h
  cases v <;> simp only at h1
  · rfl
  · simp only [AV.lt, decide_eq_true_eq] at hl
    simp only [sealG, if_pos hl]

theorem SlOk.sealn {sz : Nat} {v : AV} {xs : List AV} (h : SlOk H sz v xs) (A : Heap) (k : Nat) : sealG A (H.length + k) v = v := by
  have := (h.app (List.replicate k AO.dead)).seal A
  simpa using this

theorem slI (b : Bool) (xs : List Int) : SlOk H 1 (.sl b (xs.map I)) (xs.map I) := ⟨rfl, fun x hx => by
  obtain ⟨i, _, rfl⟩ := List.mem_map.1 hx; rfl⟩

/-- Spans of lengths that follow each other. -/
def spA (p : Int × Int) : AV := .agg [I p.1, I p.2]

theorem slS (b : Bool) (xs : List (Int × Int)) : SlOk H 2 (.sl b (xs.map spA)) (xs.map spA) := ⟨rfl, fun x hx => by
  obtain ⟨i, _, rfl⟩ := List.mem_map.1 hx; rfl⟩

theorem SlOk.old {sz : Nat} {v : AV} {xs : List AV} (h : SlOk H sz v xs) (A B : Heap) : pairM (some (H ++ A, H ++ B)) (gslOf v) = true := by
  rcases h.obj with hg | ⟨l, hg, hlt, hget⟩
  · rw [hg]; rfl
  · rw [hg, pairM_some]
    have hs : ∀ l : List AV, sameL l l = true := fun l => by
      induction l with
      | nil => rfl
      | cons x r ih => simp [sameL, AV.same_refl, ih]
    simp only [sameAt, List.getElem?_append_left hlt, hget, AO.same, hs]
    simp



/-- How many are in a set. -/
def popF : Nat → Nat → Nat
  | 0, _ => 0
  | f + 1, n => n % 2 + popF f (n / 2)
def pop (n : Nat) : Nat := popF 20 n

def M0 : Nat := 6148914691236517205
def M1 : Nat := 3689348814741910323
def M2 : Nat := 1085102592571150095
def y1 (x : Nat) : Nat := (x / 2 &&& M0) + (x &&& M0)
def y2 (x : Nat) : Nat := (y1 x / 4 &&& M1) + (y1 x &&& M1)
def y3 (x : Nat) : Nat := (y2 x / 16 + y2 x) &&& M2
def y4 (x : Nat) : Nat := y3 x + y3 x / 256
def y5 (x : Nat) : Nat := y4 x + y4 x / 65536
def y6 (x : Nat) : Nat := y5 x + y5 x / 4294967296

theorem y_bd : ∀ x < 1024, y1 x < 1024 ∧ y2 x < 1024 ∧ y3 x < 1024 ∧ y4 x < 1024 ∧ y5 x < 1024 ∧ y6 x < 1024 ∧ (y6 x &&& 127) = pop x := by decide +kernel

theorem ones64 {x : Nat} (hx : x < 1024) : callFL cfg0 prog0 false 89 [U x] H none = some ⟨.ret (I (pop x)), H, none⟩ := by
  obtain ⟨b1, b2, b3, b4, b5, b6, b7⟩ := y_bd x hx
  have f1 : (x : Int).fdiv (2 ^ min 1 64) = ((x / 2 : Nat) : Int) := fdivN x 2
  have f2 : (y1 x : Int).fdiv (2 ^ min 2 64) = ((y1 x / 4 : Nat) : Int) := fdivN (y1 x) 4
  have f3 : (y2 x : Int).fdiv (2 ^ min 4 64) = ((y2 x / 16 : Nat) : Int) := fdivN (y2 x) 16
  have f4 : (y3 x : Int).fdiv (2 ^ min 8 64) = ((y3 x / 256 : Nat) : Int) := fdivN (y3 x) 256
  have f5 : (y4 x : Int).fdiv (2 ^ min 16 64) = ((y4 x / 65536 : Nat) : Int) := fdivN (y4 x) 65536
  have f6 : (y5 x : Int).fdiv (2 ^ min 32 64) = ((y5 x / 4294967296 : Nat) : Int) := fdivN (y5 x) 4294967296
  have g1 : bitsOp .and .u64 ((x / 2 : Nat) : Int) 6148914691236517205 = some ((x / 2 &&& M0 : Nat) : Int) := bitsAnd (b := M0) (by omega) (by decide)
  have g2 : bitsOp .and .u64 (x : Int) 6148914691236517205 = some ((x &&& M0 : Nat) : Int) := bitsAnd (b := M0) (by omega) (by decide)
  have g3 : bitsOp .and .u64 ((y1 x / 4 : Nat) : Int) 3689348814741910323 = some ((y1 x / 4 &&& M1 : Nat) : Int) := bitsAnd (b := M1) (by omega) (by decide)
  have g4 : bitsOp .and .u64 (y1 x : Int) 3689348814741910323 = some ((y1 x &&& M1 : Nat) : Int) := bitsAnd (b := M1) (by omega) (by decide)
  have g5 : bitsOp .and .u64 ((y2 x / 16 + y2 x : Nat) : Int) 1085102592571150095 = some (y3 x : Int) := bitsAnd (b := M2) (by omega) (by decide)
  have g6 : bitsOp .and .i64 (y6 x : Int) 127 = some (pop x : Int) := by rw [← b7]; exact bitsAndI (b := 127) (by omega) (by decide)
  have k1 : IntKind.u64.wrap (((x / 2 &&& M0 : Nat) : Int) + ((x &&& M0 : Nat) : Int)) = (y1 x : Int) := wrapU (n := y1 x) (by omega)
  have k2 : IntKind.u64.wrap (((y1 x / 4 &&& M1 : Nat) : Int) + ((y1 x &&& M1 : Nat) : Int)) = (y2 x : Int) := wrapU (n := y2 x) (by omega)
  have k3 : IntKind.u64.wrap (((y2 x / 16 : Nat) : Int) + (y2 x : Int)) = ((y2 x / 16 + y2 x : Nat) : Int) := wrapU (n := y2 x / 16 + y2 x) (by omega)
  have k4 : IntKind.u64.wrap ((y3 x : Int) + ((y3 x / 256 : Nat) : Int)) = (y4 x : Int) := wrapU (n := y4 x) (by omega)
  have k5 : IntKind.u64.wrap ((y4 x : Int) + ((y4 x / 65536 : Nat) : Int)) = (y5 x : Int) := wrapU (n := y5 x) (by omega)
  have k6 : IntKind.u64.wrap ((y5 x : Int) + ((y5 x / 4294967296 : Nat) : Int)) = (y6 x : Int) := wrapU (n := y6 x) (by omega)
  have k7 : IntKind.i64.wrap (y6 x : Int) = (y6 x : Int) := w64 (by omega) (by omega)
  refine (callFL_eq fn89 rfl (by simp [Try.f89])).trans ?_
  simp (maxSteps := 1000000) (implicitDefEqProofs := false) (disch := first | rfl | omega | assumption) only [go_sem, f1, f2, f3, f4, f5, f6, g1, g2, g3, g4, g5, g6, k1, k2, k3, k4, k5, k6, k7]

theorem ones {x : Nat} (hx : x < 1024) : callFL cfg0 prog0 false 86 [U x] H none = some ⟨.ret (I (pop x)), H, none⟩ := by
  have h1 := fun G : Heap => ones64 (H := G) hx
  have h2 : IntKind.u64.wrap (x : Int) = x := wrapU (by omega)
  refine (callFL_eq fn86 rfl (by simp [Try.f86])).trans ?_
  simp (maxSteps := 1000000) (implicitDefEqProofs := false) (disch := first | rfl | omega | assumption) only [go_sem, h1, h2]


end Go.Ab
