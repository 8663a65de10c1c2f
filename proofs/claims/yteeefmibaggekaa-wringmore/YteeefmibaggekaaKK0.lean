/-
  The tables of the evaluator are the program's: row by row.
-/
import Derived.Test.YteeefmibaggekaaT0
import Derived.Test.YteeefmibaggekaaD9
import Derived.Test.YteeefmibaggekaaE2
import Derived.ProofKit
import Derived.Carry
import Derived.WideShapes
import Derived.OpenShut
namespace Go.Ab
set_option linter.unusedSimpArgs false
set_option linter.unusedVariables false

theorem getAt_mem {α : Type} : ∀ {l : List (Nat × α)} {k : Nat} {y : α}, getAt l k = some y → (k, y) ∈ l
  | (i, x) :: r, k, y, h => by
    simp only [getAt] at h
    by_cases e : i = k
    · simp only [e, if_pos, Option.some.injEq] at h; subst e; subst h; exact List.mem_cons_self ..
    · rw [if_neg e] at h; exact List.mem_cons_of_mem _ (getAt_mem h)

theorem tyr1 : tyOf prog0 1 = getAt tyL 1 := by kernel_rfl
theorem tyr2 : tyOf prog0 2 = getAt tyL 2 := by kernel_rfl
theorem tyr3 : tyOf prog0 3 = getAt tyL 3 := by kernel_rfl
theorem tyr4 : tyOf prog0 4 = getAt tyL 4 := by kernel_rfl
theorem tyr5 : tyOf prog0 5 = getAt tyL 5 := by kernel_rfl
theorem tyr6 : tyOf prog0 6 = getAt tyL 6 := by kernel_rfl
theorem tyr8 : tyOf prog0 8 = getAt tyL 8 := by kernel_rfl
theorem tyr12 : tyOf prog0 12 = getAt tyL 12 := by kernel_rfl
theorem tyr15 : tyOf prog0 15 = getAt tyL 15 := by kernel_rfl
theorem tyr16 : tyOf prog0 16 = getAt tyL 16 := by kernel_rfl
theorem tyr17 : tyOf prog0 17 = getAt tyL 17 := by kernel_rfl
theorem tyr19 : tyOf prog0 19 = getAt tyL 19 := by kernel_rfl
theorem tyr20 : tyOf prog0 20 = getAt tyL 20 := by kernel_rfl
theorem tyr22 : tyOf prog0 22 = getAt tyL 22 := by kernel_rfl
theorem tyr23 : tyOf prog0 23 = getAt tyL 23 := by kernel_rfl
theorem tyr25 : tyOf prog0 25 = getAt tyL 25 := by kernel_rfl
theorem tyr26 : tyOf prog0 26 = getAt tyL 26 := by kernel_rfl
theorem tyr29 : tyOf prog0 29 = getAt tyL 29 := by kernel_rfl
theorem tyr35 : tyOf prog0 35 = getAt tyL 35 := by kernel_rfl
theorem tyr49 : tyOf prog0 49 = getAt tyL 49 := by kernel_rfl
theorem tyr50 : tyOf prog0 50 = getAt tyL 50 := by kernel_rfl
theorem tyr51 : tyOf prog0 51 = getAt tyL 51 := by kernel_rfl
theorem tyr52 : tyOf prog0 52 = getAt tyL 52 := by kernel_rfl
theorem tyr53 : tyOf prog0 53 = getAt tyL 53 := by kernel_rfl
theorem tyr55 : tyOf prog0 55 = getAt tyL 55 := by kernel_rfl
theorem tyr62 : tyOf prog0 62 = getAt tyL 62 := by kernel_rfl
theorem tyr63 : tyOf prog0 63 = getAt tyL 63 := by kernel_rfl
theorem tyr65 : tyOf prog0 65 = getAt tyL 65 := by kernel_rfl
theorem tyr66 : tyOf prog0 66 = getAt tyL 66 := by kernel_rfl
theorem tyr67 : tyOf prog0 67 = getAt tyL 67 := by kernel_rfl
theorem tyr69 : tyOf prog0 69 = getAt tyL 69 := by kernel_rfl
theorem tyr71 : tyOf prog0 71 = getAt tyL 71 := by kernel_rfl
theorem tyr75 : tyOf prog0 75 = getAt tyL 75 := by kernel_rfl
theorem tyr76 : tyOf prog0 76 = getAt tyL 76 := by kernel_rfl
theorem tyr78 : tyOf prog0 78 = getAt tyL 78 := by kernel_rfl
theorem tyr80 : tyOf prog0 80 = getAt tyL 80 := by kernel_rfl
theorem tyr81 : tyOf prog0 81 = getAt tyL 81 := by kernel_rfl
theorem tyr84 : tyOf prog0 84 = getAt tyL 84 := by kernel_rfl
theorem tyr86 : tyOf prog0 86 = getAt tyL 86 := by kernel_rfl
theorem tyr88 : tyOf prog0 88 = getAt tyL 88 := by kernel_rfl
theorem tyr96 : tyOf prog0 96 = getAt tyL 96 := by kernel_rfl
theorem tyr98 : tyOf prog0 98 = getAt tyL 98 := by kernel_rfl
theorem tyr101 : tyOf prog0 101 = getAt tyL 101 := by kernel_rfl
theorem tyr102 : tyOf prog0 102 = getAt tyL 102 := by kernel_rfl
theorem tyr104 : tyOf prog0 104 = getAt tyL 104 := by kernel_rfl
theorem tyr106 : tyOf prog0 106 = getAt tyL 106 := by kernel_rfl
theorem tyr107 : tyOf prog0 107 = getAt tyL 107 := by kernel_rfl
theorem tyr109 : tyOf prog0 109 = getAt tyL 109 := by kernel_rfl
theorem tyr110 : tyOf prog0 110 = getAt tyL 110 := by kernel_rfl
theorem tyr114 : tyOf prog0 114 = getAt tyL 114 := by kernel_rfl
theorem tyr115 : tyOf prog0 115 = getAt tyL 115 := by kernel_rfl
theorem tyr117 : tyOf prog0 117 = getAt tyL 117 := by kernel_rfl
theorem tyr120 : tyOf prog0 120 = getAt tyL 120 := by kernel_rfl
theorem tyr121 : tyOf prog0 121 = getAt tyL 121 := by kernel_rfl
theorem tyr124 : tyOf prog0 124 = getAt tyL 124 := by kernel_rfl
theorem tyr125 : tyOf prog0 125 = getAt tyL 125 := by kernel_rfl
theorem tyr128 : tyOf prog0 128 = getAt tyL 128 := by kernel_rfl
theorem tyr129 : tyOf prog0 129 = getAt tyL 129 := by kernel_rfl
theorem tyr133 : tyOf prog0 133 = getAt tyL 133 := by kernel_rfl
theorem tyr137 : tyOf prog0 137 = getAt tyL 137 := by kernel_rfl
theorem tyr142 : tyOf prog0 142 = getAt tyL 142 := by kernel_rfl
theorem tyr143 : tyOf prog0 143 = getAt tyL 143 := by kernel_rfl
theorem tyr144 : tyOf prog0 144 = getAt tyL 144 := by kernel_rfl
theorem tyr146 : tyOf prog0 146 = getAt tyL 146 := by kernel_rfl
theorem tyr149 : tyOf prog0 149 = getAt tyL 149 := by kernel_rfl
theorem tyr153 : tyOf prog0 153 = getAt tyL 153 := by kernel_rfl
theorem tyr155 : tyOf prog0 155 = getAt tyL 155 := by kernel_rfl
theorem tyr158 : tyOf prog0 158 = getAt tyL 158 := by kernel_rfl
theorem tyr160 : tyOf prog0 160 = getAt tyL 160 := by kernel_rfl
theorem tyr172 : tyOf prog0 172 = getAt tyL 172 := by kernel_rfl

theorem ty_rows : ∀ k ∈ [1, 2, 3, 4, 5, 6, 8, 12, 15, 16, 17, 19, 20, 22, 23, 25, 26, 29, 35, 49, 50, 51, 52, 53, 55, 62, 63, 65, 66, 67, 69, 71, 75, 76, 78, 80, 81, 84, 86, 88, 96, 98, 101, 102, 104, 106, 107, 109, 110, 114, 115, 117, 120, 121, 124, 125, 128, 129, 133, 137, 142, 143, 144, 146, 149, 153, 155, 158, 160, 172], tyOf prog0 k = getAt tyL k := by
  simp only [List.forall_mem_cons]
  exact ⟨tyr1, tyr2, tyr3, tyr4, tyr5, tyr6, tyr8, tyr12, tyr15, tyr16, tyr17, tyr19, tyr20, tyr22, tyr23, tyr25, tyr26, tyr29, tyr35, tyr49, tyr50, tyr51, tyr52, tyr53, tyr55, tyr62, tyr63, tyr65, tyr66, tyr67, tyr69, tyr71, tyr75, tyr76, tyr78, tyr80, tyr81, tyr84, tyr86, tyr88, tyr96, tyr98, tyr101, tyr102, tyr104, tyr106, tyr107, tyr109, tyr110, tyr114, tyr115, tyr117, tyr120, tyr121, tyr124, tyr125, tyr128, tyr129, tyr133, tyr137, tyr142, tyr143, tyr144, tyr146, tyr149, tyr153, tyr155, tyr158, tyr160, tyr172, List.forall_mem_nil _⟩

theorem eqr2 : ∀ st ks, getAt eqL 2 = some (st, ks) → eqCells prog0 8 2 = some ks ∧ isStr prog0 2 = st ∧ prog0.eqGuardType prog0.depth 2 = false := fun _ _ h => by
  injection h with h; injection h with h1 h2; subst h1; subst h2
  exact ⟨by kernel_rfl, by kernel_rfl, by kernel_rfl⟩
theorem eqr3 : ∀ st ks, getAt eqL 3 = some (st, ks) → eqCells prog0 8 3 = some ks ∧ isStr prog0 3 = st ∧ prog0.eqGuardType prog0.depth 3 = false := fun _ _ h => by
  injection h with h; injection h with h1 h2; subst h1; subst h2
  exact ⟨by kernel_rfl, by kernel_rfl, by kernel_rfl⟩
theorem eqr4 : ∀ st ks, getAt eqL 4 = some (st, ks) → eqCells prog0 8 4 = some ks ∧ isStr prog0 4 = st ∧ prog0.eqGuardType prog0.depth 4 = false := fun _ _ h => by
  injection h with h; injection h with h1 h2; subst h1; subst h2
  exact ⟨by kernel_rfl, by kernel_rfl, by kernel_rfl⟩
theorem eqr5 : ∀ st ks, getAt eqL 5 = some (st, ks) → eqCells prog0 8 5 = some ks ∧ isStr prog0 5 = st ∧ prog0.eqGuardType prog0.depth 5 = false := fun _ _ h => by
  injection h with h; injection h with h1 h2; subst h1; subst h2
  exact ⟨by kernel_rfl, by kernel_rfl, by kernel_rfl⟩
theorem eqr6 : ∀ st ks, getAt eqL 6 = some (st, ks) → eqCells prog0 8 6 = some ks ∧ isStr prog0 6 = st ∧ prog0.eqGuardType prog0.depth 6 = false := fun _ _ h => by
  injection h with h; injection h with h1 h2; subst h1; subst h2
  exact ⟨by kernel_rfl, by kernel_rfl, by kernel_rfl⟩
theorem eqr8 : ∀ st ks, getAt eqL 8 = some (st, ks) → eqCells prog0 8 8 = some ks ∧ isStr prog0 8 = st ∧ prog0.eqGuardType prog0.depth 8 = false := fun _ _ h => by
  injection h with h; injection h with h1 h2; subst h1; subst h2
  exact ⟨by kernel_rfl, by kernel_rfl, by kernel_rfl⟩
theorem eqr12 : ∀ st ks, getAt eqL 12 = some (st, ks) → eqCells prog0 8 12 = some ks ∧ isStr prog0 12 = st ∧ prog0.eqGuardType prog0.depth 12 = false := fun _ _ h => by
  injection h with h; injection h with h1 h2; subst h1; subst h2
  exact ⟨by kernel_rfl, by kernel_rfl, by kernel_rfl⟩
theorem eqr29 : ∀ st ks, getAt eqL 29 = some (st, ks) → eqCells prog0 8 29 = some ks ∧ isStr prog0 29 = st ∧ prog0.eqGuardType prog0.depth 29 = false := fun _ _ h => by
  injection h with h; injection h with h1 h2; subst h1; subst h2
  exact ⟨by kernel_rfl, by kernel_rfl, by kernel_rfl⟩
theorem eqr35 : ∀ st ks, getAt eqL 35 = some (st, ks) → eqCells prog0 8 35 = some ks ∧ isStr prog0 35 = st ∧ prog0.eqGuardType prog0.depth 35 = false := fun _ _ h => by
  injection h with h; injection h with h1 h2; subst h1; subst h2
  exact ⟨by kernel_rfl, by kernel_rfl, by kernel_rfl⟩
theorem eqr62 : ∀ st ks, getAt eqL 62 = some (st, ks) → eqCells prog0 8 62 = some ks ∧ isStr prog0 62 = st ∧ prog0.eqGuardType prog0.depth 62 = false := fun _ _ h => by
  injection h with h; injection h with h1 h2; subst h1; subst h2
  exact ⟨by kernel_rfl, by kernel_rfl, by kernel_rfl⟩
theorem eqr63 : ∀ st ks, getAt eqL 63 = some (st, ks) → eqCells prog0 8 63 = some ks ∧ isStr prog0 63 = st ∧ prog0.eqGuardType prog0.depth 63 = false := fun _ _ h => by
  injection h with h; injection h with h1 h2; subst h1; subst h2
  exact ⟨by kernel_rfl, by kernel_rfl, by kernel_rfl⟩
theorem eqr65 : ∀ st ks, getAt eqL 65 = some (st, ks) → eqCells prog0 8 65 = some ks ∧ isStr prog0 65 = st ∧ prog0.eqGuardType prog0.depth 65 = false := fun _ _ h => by
  injection h with h; injection h with h1 h2; subst h1; subst h2
  exact ⟨by kernel_rfl, by kernel_rfl, by kernel_rfl⟩
theorem eqr66 : ∀ st ks, getAt eqL 66 = some (st, ks) → eqCells prog0 8 66 = some ks ∧ isStr prog0 66 = st ∧ prog0.eqGuardType prog0.depth 66 = false := fun _ _ h => by
  injection h with h; injection h with h1 h2; subst h1; subst h2
  exact ⟨by kernel_rfl, by kernel_rfl, by kernel_rfl⟩
theorem eqr67 : ∀ st ks, getAt eqL 67 = some (st, ks) → eqCells prog0 8 67 = some ks ∧ isStr prog0 67 = st ∧ prog0.eqGuardType prog0.depth 67 = false := fun _ _ h => by
  injection h with h; injection h with h1 h2; subst h1; subst h2
  exact ⟨by kernel_rfl, by kernel_rfl, by kernel_rfl⟩
theorem eqr69 : ∀ st ks, getAt eqL 69 = some (st, ks) → eqCells prog0 8 69 = some ks ∧ isStr prog0 69 = st ∧ prog0.eqGuardType prog0.depth 69 = false := fun _ _ h => by
  injection h with h; injection h with h1 h2; subst h1; subst h2
  exact ⟨by kernel_rfl, by kernel_rfl, by kernel_rfl⟩
theorem eqr71 : ∀ st ks, getAt eqL 71 = some (st, ks) → eqCells prog0 8 71 = some ks ∧ isStr prog0 71 = st ∧ prog0.eqGuardType prog0.depth 71 = false := fun _ _ h => by
  injection h with h; injection h with h1 h2; subst h1; subst h2
  exact ⟨by kernel_rfl, by kernel_rfl, by kernel_rfl⟩
theorem eqr78 : ∀ st ks, getAt eqL 78 = some (st, ks) → eqCells prog0 8 78 = some ks ∧ isStr prog0 78 = st ∧ prog0.eqGuardType prog0.depth 78 = false := fun _ _ h => by
  injection h with h; injection h with h1 h2; subst h1; subst h2
  exact ⟨by kernel_rfl, by kernel_rfl, by kernel_rfl⟩
theorem eqr96 : ∀ st ks, getAt eqL 96 = some (st, ks) → eqCells prog0 8 96 = some ks ∧ isStr prog0 96 = st ∧ prog0.eqGuardType prog0.depth 96 = false := fun _ _ h => by
  injection h with h; injection h with h1 h2; subst h1; subst h2
  exact ⟨by kernel_rfl, by kernel_rfl, by kernel_rfl⟩
theorem eqr98 : ∀ st ks, getAt eqL 98 = some (st, ks) → eqCells prog0 8 98 = some ks ∧ isStr prog0 98 = st ∧ prog0.eqGuardType prog0.depth 98 = false := fun _ _ h => by
  injection h with h; injection h with h1 h2; subst h1; subst h2
  exact ⟨by kernel_rfl, by kernel_rfl, by kernel_rfl⟩
theorem eqr104 : ∀ st ks, getAt eqL 104 = some (st, ks) → eqCells prog0 8 104 = some ks ∧ isStr prog0 104 = st ∧ prog0.eqGuardType prog0.depth 104 = false := fun _ _ h => by
  injection h with h; injection h with h1 h2; subst h1; subst h2
  exact ⟨by kernel_rfl, by kernel_rfl, by kernel_rfl⟩
theorem eqr114 : ∀ st ks, getAt eqL 114 = some (st, ks) → eqCells prog0 8 114 = some ks ∧ isStr prog0 114 = st ∧ prog0.eqGuardType prog0.depth 114 = false := fun _ _ h => by
  injection h with h; injection h with h1 h2; subst h1; subst h2
  exact ⟨by kernel_rfl, by kernel_rfl, by kernel_rfl⟩
theorem eqr117 : ∀ st ks, getAt eqL 117 = some (st, ks) → eqCells prog0 8 117 = some ks ∧ isStr prog0 117 = st ∧ prog0.eqGuardType prog0.depth 117 = false := fun _ _ h => by
  injection h with h; injection h with h1 h2; subst h1; subst h2
  exact ⟨by kernel_rfl, by kernel_rfl, by kernel_rfl⟩
theorem eqr120 : ∀ st ks, getAt eqL 120 = some (st, ks) → eqCells prog0 8 120 = some ks ∧ isStr prog0 120 = st ∧ prog0.eqGuardType prog0.depth 120 = false := fun _ _ h => by
  injection h with h; injection h with h1 h2; subst h1; subst h2
  exact ⟨by kernel_rfl, by kernel_rfl, by kernel_rfl⟩
theorem eqr149 : ∀ st ks, getAt eqL 149 = some (st, ks) → eqCells prog0 8 149 = some ks ∧ isStr prog0 149 = st ∧ prog0.eqGuardType prog0.depth 149 = false := fun _ _ h => by
  injection h with h; injection h with h1 h2; subst h1; subst h2
  exact ⟨by kernel_rfl, by kernel_rfl, by kernel_rfl⟩
theorem eqr158 : ∀ st ks, getAt eqL 158 = some (st, ks) → eqCells prog0 8 158 = some ks ∧ isStr prog0 158 = st ∧ prog0.eqGuardType prog0.depth 158 = false := fun _ _ h => by
  injection h with h; injection h with h1 h2; subst h1; subst h2
  exact ⟨by kernel_rfl, by kernel_rfl, by kernel_rfl⟩
theorem eqr160 : ∀ st ks, getAt eqL 160 = some (st, ks) → eqCells prog0 8 160 = some ks ∧ isStr prog0 160 = st ∧ prog0.eqGuardType prog0.depth 160 = false := fun _ _ h => by
  injection h with h; injection h with h1 h2; subst h1; subst h2
  exact ⟨by kernel_rfl, by kernel_rfl, by kernel_rfl⟩
theorem eqr172 : ∀ st ks, getAt eqL 172 = some (st, ks) → eqCells prog0 8 172 = some ks ∧ isStr prog0 172 = st ∧ prog0.eqGuardType prog0.depth 172 = false := fun _ _ h => by
  injection h with h; injection h with h1 h2; subst h1; subst h2
  exact ⟨by kernel_rfl, by kernel_rfl, by kernel_rfl⟩

theorem eq_rows : ∀ k ∈ [2, 3, 4, 5, 6, 8, 12, 29, 35, 62, 63, 65, 66, 67, 69, 71, 78, 96, 98, 104, 114, 117, 120, 149, 158, 160, 172], ∀ st ks, getAt eqL k = some (st, ks) → eqCells prog0 8 k = some ks ∧ isStr prog0 k = st ∧ prog0.eqGuardType prog0.depth k = false := by
  simp only [List.forall_mem_cons]
  exact ⟨eqr2, eqr3, eqr4, eqr5, eqr6, eqr8, eqr12, eqr29, eqr35, eqr62, eqr63, eqr65, eqr66, eqr67, eqr69, eqr71, eqr78, eqr96, eqr98, eqr104, eqr114, eqr117, eqr120, eqr149, eqr158, eqr160, eqr172, List.forall_mem_nil _⟩

set_option maxRecDepth 100000 in
theorem fn_rows : ∀ x ∈ fnL, prog0.funcs[x.1]? = some x.2 := by
  simp only [fnL, List.forall_mem_cons]
  exact ⟨Go.Proofs.Try.func0, Go.Proofs.Try.func1, Go.Proofs.Try.func2, Go.Proofs.Try.func3, Go.Proofs.Try.func4, Go.Proofs.Try.func5, Go.Proofs.Try.func6, Go.Proofs.Try.func7, Go.Proofs.Try.func8, Go.Proofs.Try.func9, Go.Proofs.Try.func10, Go.Proofs.Try.func11, Go.Proofs.Try.func12, Go.Proofs.Try.func13, Go.Proofs.Try.func14, Go.Proofs.Try.func15, Go.Proofs.Try.func16, Go.Proofs.Try.func17, Go.Proofs.Try.func18, Go.Proofs.Try.func19, Go.Proofs.Try.func20, Go.Proofs.Try.func21, Go.Proofs.Try.func22, Go.Proofs.Try.func23, Go.Proofs.Try.func24, Go.Proofs.Try.func25, Go.Proofs.Try.func26, Go.Proofs.Try.func27, Go.Proofs.Try.func28, Go.Proofs.Try.func29, Go.Proofs.Try.func30, Go.Proofs.Try.func31, Go.Proofs.Try.func32, Go.Proofs.Try.func33, Go.Proofs.Try.func34, Go.Proofs.Try.func35, Go.Proofs.Try.func36, Go.Proofs.Try.func37, Go.Proofs.Try.func38, Go.Proofs.Try.func39, Go.Proofs.Try.func40, Go.Proofs.Try.func41, Go.Proofs.Try.func42, Go.Proofs.Try.func43, Go.Proofs.Try.func44, Go.Proofs.Try.func45, Go.Proofs.Try.func46, Go.Proofs.Try.func47, Go.Proofs.Try.func48, Go.Proofs.Try.func49, Go.Proofs.Try.func50, Go.Proofs.Try.func51, Go.Proofs.Try.func52, Go.Proofs.Try.func53, Go.Proofs.Try.func54, Go.Proofs.Try.func55, Go.Proofs.Try.func56, Go.Proofs.Try.func57, Go.Proofs.Try.func58, Go.Proofs.Try.func59, Go.Proofs.Try.func60, Go.Proofs.Try.func61, Go.Proofs.Try.func62, Go.Proofs.Try.func63, Go.Proofs.Try.func64, Go.Proofs.Try.func65, Go.Proofs.Try.func66, Go.Proofs.Try.func67, Go.Proofs.Try.func68, Go.Proofs.Try.func69, Go.Proofs.Try.func70, Go.Proofs.Try.func71, Go.Proofs.Try.func72, Go.Proofs.Try.func73, Go.Proofs.Try.func74, Go.Proofs.Try.func75, Go.Proofs.Try.func76, Go.Proofs.Try.func77, Go.Proofs.Try.func78, Go.Proofs.Try.func79, Go.Proofs.Try.func80, Go.Proofs.Try.func81, Go.Proofs.Try.func82, Go.Proofs.Try.func83, Go.Proofs.Try.func84, Go.Proofs.Try.func85, Go.Proofs.Try.func86, Go.Proofs.Try.func87, Go.Proofs.Try.func88, Go.Proofs.Try.func89, Go.Proofs.Try.func90, Go.Proofs.Try.func91, Go.Proofs.Try.func92, Go.Proofs.Try.func93, Go.Proofs.Try.func94, Go.Proofs.Try.func95, Go.Proofs.Try.func96, Go.Proofs.Try.func97, Go.Proofs.Try.func98, Go.Proofs.Try.func99, Go.Proofs.Try.func100, Go.Proofs.Try.func101, Go.Proofs.Try.func102, Go.Proofs.Try.func103, Go.Proofs.Try.func104, Go.Proofs.Try.func105, Go.Proofs.Try.func106, Go.Proofs.Try.func107, Go.Proofs.Try.func108, Go.Proofs.Try.func109, Go.Proofs.Try.func110, Go.Proofs.Try.func111, Go.Proofs.Try.func112, Go.Proofs.Try.func113, Go.Proofs.Try.func114, Go.Proofs.Try.func115, Go.Proofs.Try.func116, Go.Proofs.Try.func117, Go.Proofs.Try.func118, Go.Proofs.Try.func119, Go.Proofs.Try.func120, Go.Proofs.Try.func121, Go.Proofs.Try.func122, Go.Proofs.Try.func123, Go.Proofs.Try.func124, Go.Proofs.Try.func125, Go.Proofs.Try.func126, Go.Proofs.Try.func127, Go.Proofs.Try.func128, Go.Proofs.Try.func129, List.forall_mem_nil _⟩

theorem meth_rows : (methL.all fun r => r.2.all fun p => methodOf prog0 r.1 p.1 == some p.2) = true := by kernel_rfl

theorem name_rows : (fnL.all fun x => x.2.name != "runtime.NumGoroutine") = true := by kernel_rfl

theorem code_rows : (fnL.all fun x => match x.2.body with
  | some b => codeOk x.2.ntmps b
  | none => true) = true := by kernel_rfl

theorem field_rows : (tyL.all fun x => match x.2.d with
  | .struct fs => fs.all fun p => (getAt tyL p.2).isSome
  | _ => true) = true := by kernel_rfl

theorem keys_ty : tyL.map (·.1) = [1, 2, 3, 4, 5, 6, 8, 12, 15, 16, 17, 19, 20, 22, 23, 25, 26, 29, 35, 49, 50, 51, 52, 53, 55, 62, 63, 65, 66, 67, 69, 71, 75, 76, 78, 80, 81, 84, 86, 88, 96, 98, 101, 102, 104, 106, 107, 109, 110, 114, 115, 117, 120, 121, 124, 125, 128, 129, 133, 137, 142, 143, 144, 146, 149, 153, 155, 158, 160, 172] := rfl
theorem keys_eq : eqL.map (·.1) = [2, 3, 4, 5, 6, 8, 12, 29, 35, 62, 63, 65, 66, 67, 69, 71, 78, 96, 98, 104, 114, 117, 120, 149, 158, 160, 172] := rfl

theorem ok0 : Ok cfg0 prog0 where
  ty t y h := by
    have h' : getAt tyL t = some y := h
    rw [ty_rows t (keys_ty ▸ List.mem_map.2 ⟨_, getAt_mem h', rfl⟩)]; exact h'
  eq t st ks h := by
    have h' : getAt eqL t = some (st, ks) := h
    exact eq_rows t (keys_eq ▸ List.mem_map.2 ⟨_, getAt_mem h', rfl⟩) st ks h'
  meth t n g h := by
    have h' : methT t n = some g := h
    unfold methT at h'
    cases e : getAt methL t with
    | none => rw [e] at h'; exact absurd h' (by simp)
    | some r =>
      rw [e] at h'
      have hm := getAt_mem e
      have ha := List.all_eq_true.1 meth_rows _ hm
      simp only [Option.map_eq_some_iff] at h'
      obtain ⟨p, hp, rfl⟩ := h'
      have h1 := List.find?_some hp
      have h2 := List.mem_of_find?_eq_some hp
      have h3 := List.all_eq_true.1 ha _ h2
      have e1 : p.1 = n := by simpa using h1
      subst e1
      simpa using h3
  glob g v h := by
    have h' : getAt globL g = some v := h
    exact getAt_mem h'
  fns g fn h := by
    have h' : getAt fnL g = some fn := h
    have hm := getAt_mem h'
    have hf := fn_rows (g, fn) hm
    refine ⟨hf, ?_, ?_⟩
    · have := List.all_eq_true.1 name_rows _ hm
      simpa using this
    · intro b hb
      have := List.all_eq_true.1 code_rows _ hm
      simpa only [hb] using this
  fields t y fs h hd x hx := by
    have h' : getAt tyL t = some y := h
    have := List.all_eq_true.1 field_rows _ (getAt_mem h')
    simp only [hd] at this
    exact Option.isSome_iff_exists.1 (List.all_eq_true.1 this _ hx)

end Go.Ab
/-
  The frame that every law of this kind shares: what was there is as it was, and more has been made.
-/
namespace Go.Ab
set_option linter.unusedSimpArgs false
set_option linter.unusedVariables false
open Go.ChangeShapes Go.RowKit

/-- A law, by the evaluator's limit. -/
theorem law_calls {C : Cfg} {P : Program} (ok : Ok C P) {f : FuncId} {args : List AV} {vals : List Value} {W : World} {H : Heap} {p : Option (AV × Bool)} (h : callFL C P false f args [] none = some ⟨.ret (.bool true), H, p⟩)
    (hg : GlobOk (Cx.start W)) (hr : RelL (Cx.start W) args vals) : Calls P f vals.toArray W fun e w' => e = .returned (.bool true) ∧ Below W.heap.size W w' := by
  obtain ⟨n, hn⟩ := lim_ex h
  exact calls_true ok hn rfl hg hr

theorem post_below {P : Program} {T : Type} {enc : TypeId × Value → T} {f : Func} {s : ChangeSpec} {apart fresh handsOn again : Bool} {W W' : World} {args : Array Value} {v : Value} {ds gs : List (DataW T)} {before pa pv : List MemPlace}
    (hW : DataW.Whole enc P f.params.toList s.vars apart W args.toList ds gs before)
    (hres : ∀ (b : Nat) (sp : Nat → Bool) (hd : Bool), DataW.TrodAll enc P W' b sp hd f.resultTypes.toList (v.resultList f.resultTypes.size) (s.fn T (ds ++ gs)).results [])
    (hargs : ∀ sp : Nat → Bool, (∀ p ∈ before, sp p.block = true) → DataW.TrodAll enc P W' 0 sp true f.params.toList args.toList (s.fn T (ds ++ gs)).args pa)
    (hvars : ∀ sp : Nat → Bool, (∀ p ∈ before, sp p.block = true) → DataW.TrodVars enc P W' sp s.vars (s.fn T (ds ++ gs)).vars pv)
    (hps : before = pa ++ pv) (hb : Below W.heap.size W W')
    (hok : ∀ (j : Nat) (t : TypeId) (r : Value), f.resultTypes[j]? = some t → (v.resultList f.resultTypes.size)[j]? = some r → Value.okWide P W' .any 0 t r) :
    s.post enc P f apart fresh handsOn again W args v W' := by
  have hold : ∀ p ∈ before, (fun b => decide (b < W.heap.size)) p.block = true := fun p hp => by simpa using hW.lt p hp
  have hlt : ∀ p ∈ before, p.block < W.heap.size := hW.lt
  refine ⟨ds, gs, before, [], pa, pv, hW, hres _ _ _, hargs _ hold, hvars _ hold, World.keptBut_mono (fun p hp => ⟨hp, ?_⟩) (hb.frame (fun p => p ∈ before)), fun _ => ?_⟩
  · rw [hps, List.mem_append] at hp
    exact Or.inr hp
  · obtain ⟨_, _, _, _, _, hz, hn⟩ := hW
    refine ⟨hok, _, _, ([] ++ pa) ++ pv, ⟨[] ++ pa, pv, trodAll_append (hargs _ (fun _ _ => rfl)) (hres _ _ _), hvars _ (fun _ _ => rfl), rfl, ?_, ?_⟩, ?_⟩
    · intro b off hp
      have hm : MemPlace.cell b off ∈ before := by rw [hps]; simpa using hp
      rw [hb.frozen (p := ⟨b, off, none⟩) (hlt _ hm)]
      exact hz b off hm
    · intro ha
      have := hn ha
      rw [hps] at this
      simpa using this
    · intro p hp _
      rw [hps]
      simpa using hp

end Go.Ab
/-
  From arguments that can be read as data to what the evaluator takes: integers, bools, structs and slices of such.
-/
namespace Go.Ab
set_option linter.unusedSimpArgs false
set_option linter.unusedVariables false
open Go.ChangeShapes Go.RowKit Go.WideShapes

/-- The shape of plain data. -/
inductive Sh where
  | int (k : IntKind)
  | bool
  | sl (agg : Bool) (e : Sh)
  | unit
  | cons (a r : Sh)

def aggTy (P : Program) (t : TypeId) : Bool :=
  match P.underlying t with
  | some (.struct _) => true
  | some (.array _ _) => true
  | _ => false

def shFields (P : Program) (rec : TypeId → Option Sh) (tot : Nat) : List Field → Nat → Option Sh
  | [], off => if off = tot then some .unit else none
  | f :: r, off =>
    if f.offset = off then
      match rec f.type, shFields P rec tot r (off + P.cellsOf f.type) with
      | some a, some b => some (.cons a b)
      | _, _ => none
    else none

def shRep : Nat → Sh → Sh
  | 0, _ => .unit
  | n + 1, s => .cons s (shRep n s)

def shOf (P : Program) : Nat → TypeId → Option Sh
  | 0, _ => none
  | n + 1, t =>
    match P.underlying t with
    | some (.int k) => some (.int k)
    | some .bool => some .bool
    | some (.slice e) => if 0 < P.cellsOf e then (shOf P n e).map (.sl (aggTy P e)) else none
    | some (.struct fs) => shFields P (shOf P n) (P.cellsOf t) fs.toList 0
    | some (.array k e) => if P.cellsOf t = k * P.cellsOf e then (shOf P n e).map (shRep k) else none
    | _ => none

def pack (agg : Bool) (cs : List AV) : AV := if agg then .agg cs else cs.headD .undef

def Shaped : Sh → List AV → Prop
  | .int k, l => ∃ n, l = [.int k n] ∧ (Lit.int k n).wf = true
  | .bool, l => ∃ b, l = [.bool b]
  | .sl agg e, l => ∃ f es, l = [.sl f es] ∧ ∀ x ∈ es, ∃ cs, Shaped e cs ∧ x = pack agg cs
  | .unit, l => l = []
  | .cons a r, l => ∃ x y, l = x ++ y ∧ Shaped a x ∧ Shaped r y

theorem rel_sl {c : Cx} {f : Bool} {es : List AV} {v : Value} : Rel c (.sl f es) v = (∃ a cap, v = .slice a es.length cap ∧ ((f = true → cap = es.length) ∧ es.length ≤ cap) ∧ (ltL 0 es = true ∧ ∀ x ∈ es, known x = true) ∧
      (es = [] ∨ ∃ b o sz ys, a = some ⟨b, o, none⟩ ∧ b < c.w.heap.size ∧ ¬ c.owned b ∧ RelL c es ys ∧ (∀ y ∈ ys, y.cells.size = sz) ∧ Lies c.w b o (flat ys))) := by
  rw [Rel]

theorem relL_one {c : Cx} {v : AV} {y : Value} (h : Rel c v y) : RelL c [v] [y] := by
  simp only [RelL]
  exact ⟨y, [], rfl, h, rfl⟩

/-- What is told of cells that have been read. -/
structure ReadOk (W : World) (sh : Sh) (cs : List Value) (avs : List AV) : Prop where
  rel : RelL (Cx.start W) avs cs
  shp : Shaped sh avs
  lt : ltL 0 avs = true
  sca : allScalar avs = true

section
variable {H : Type} {enc : TypeId × Value → H} {P : Program} {W : World}

theorem fields_read {rec : TypeId → Option Sh} {tot n : Nat} {cs : List Value} (hl : cs.length = tot)
    (ih : ∀ t sh, rec t = some sh → ∀ cs x, DataW.trod enc P W 0 (fun _ => true) true n t cs = some x → ∃ avs, ReadOk W sh cs avs) :
    ∀ (fs : List Field) (off : Nat) (sh : Sh), shFields P rec tot fs off = some sh →
      (∀ f ∈ fs, ∃ x, DataW.trod enc P W 0 (fun _ => true) true n f.type ((cs.drop f.offset).take (P.cellsOf f.type)) = some x) → ∃ avs, ReadOk W sh (cs.drop off) avs
  | [], off, sh, h, _ => by
    simp only [shFields] at h
    split at h
    · rename_i e
      injection h with h
      subst h
      exact ⟨[], by rw [List.drop_eq_nil_of_le (by omega)]; simp only [RelL], rfl, rfl, rfl⟩
    · cases h
  | f :: r, off, sh, h, hf => by
    simp only [shFields] at h
    split at h
    · rename_i e
      split at h
      · rename_i a b ha hb
        injection h with h
        subst h
        obtain ⟨x, hx⟩ := hf f (List.mem_cons_self ..)
        rw [e] at hx
        obtain ⟨avs, h1⟩ := ih f.type a ha _ x hx
        obtain ⟨bvs, h2⟩ := fields_read hl ih r _ b hb fun g hg => hf g (List.mem_cons_of_mem _ hg)
        refine ⟨avs ++ bvs, ?_, ⟨avs, bvs, rfl, h1.shp, h2.shp⟩, by rw [ltL_append, h1.lt, h2.lt]; rfl, by rw [allScalar_append, h1.sca, h2.sca]; rfl⟩
        have : cs.drop off = (cs.drop off).take (P.cellsOf f.type) ++ cs.drop (off + P.cellsOf f.type) := by
          rw [← List.drop_drop, List.take_append_drop]
        rw [this]
        exact RelL.append h1.rel h2.rel
      · cases h
    · cases h

theorem array_read {k sz : Nat} {e : TypeId} {she : Sh} {n : Nat} {cs : List Value} (hsz : P.cellsOf e = sz) (hl : cs.length = k * sz)
    (ih : ∀ cs x, DataW.trod enc P W 0 (fun _ => true) true n e cs = some x → ∃ avs, ReadOk W she cs avs)
    (hall : ∀ i, i < k → ∃ x, DataW.trod enc P W 0 (fun _ => true) true n e ((cs.drop (i * sz)).take sz) = some x) : ∀ j, j ≤ k → ∃ avs, ReadOk W (shRep j she) (cs.drop ((k - j) * sz)) avs
  | 0, _ => ⟨[], by rw [List.drop_eq_nil_of_le (by rw [hl]; exact Nat.le_refl _)]; simp only [RelL], rfl, rfl, rfl⟩
  | j + 1, hj => by
    obtain ⟨bvs, h2⟩ := array_read hsz hl ih hall j (by omega)
    obtain ⟨x, hx⟩ := hall (k - (j + 1)) (by omega)
    obtain ⟨avs, h1⟩ := ih _ _ hx
    refine ⟨avs ++ bvs, ?_, ⟨avs, bvs, rfl, h1.shp, h2.shp⟩, by rw [ltL_append, h1.lt, h2.lt]; rfl, by rw [allScalar_append, h1.sca, h2.sca]; rfl⟩
    have e1 : (k - j) * sz = (k - (j + 1)) * sz + sz := by
      rw [show k - j = (k - (j + 1)) + 1 by omega, Nat.add_mul, Nat.one_mul]
    have : cs.drop ((k - (j + 1)) * sz) = (cs.drop ((k - (j + 1)) * sz)).take sz ++ cs.drop ((k - j) * sz) := by
      rw [e1, ← List.drop_drop, List.take_append_drop]
    rw [this]
    exact RelL.append h1.rel h2.rel

theorem cells_single {y : Value} (h : ∀ cs, y ≠ .agg cs) : y.cells = #[y] := by
  cases y <;> first | rfl | exact absurd rfl (h _)

theorem elems_read {n sz : Nat} {e : TypeId} {sh : Sh} {agg : Bool} {b o : Nat} (hsz : P.cellsOf e = sz) (hpos : 0 < sz)
    (ih : ∀ cs x, DataW.trod enc P W 0 (fun _ => true) true n e cs = some x → ∃ avs, ReadOk W sh cs avs ∧ (agg = false → ∃ y, cs = [y] ∧ ∀ z, y ≠ .agg z)) {len : Nat}
    (hel : ∀ i, i < len → ∃ x, (W.cells? 0 (Addr.add ⟨b, o, none⟩ (i * sz)) sz).bind (DataW.trod enc P W 0 (fun _ => true) true n e) = some x) :
    ∀ j, j ≤ len → ∃ es ys, es.length = j ∧ RelL (Cx.start W) es ys ∧ (∀ y ∈ ys, y.cells.size = sz) ∧ Lies W b o (flat ys) ∧ ltL 0 es = true ∧ ∀ x ∈ es, known x = true ∧ ∃ cs, Shaped sh cs ∧ x = pack agg cs
  | 0, _ => ⟨[], [], rfl, by simp only [RelL], by simp, by intro k hk; simp [flat] at hk, rfl, by simp⟩
  | j + 1, hj => by
    obtain ⟨es, ys, h1, h2, h3, h4, h5, h6⟩ := elems_read hsz hpos ih hel j (by omega)
    obtain ⟨x, hx⟩ := hel j (by omega)
    rw [Option.bind_eq_some_iff] at hx
    obtain ⟨cs, hc, ht⟩ := hx
    obtain ⟨-, hcl, hcc⟩ := World.cells?_some hc
    obtain ⟨avs, hr, hs⟩ := ih cs x ht
    have hyl : ys.length = j := by rw [← h2.length, h1]
    have hfl : (flat ys).length = j * sz := by rw [flat_length h3, hyl]
    have hav : avs.length = sz := by rw [hr.rel.length, hcl]
    have key : ∃ z : Value, z.cells.toList = cs ∧ Rel (Cx.start W) (pack agg avs) z ∧ known (pack agg avs) = true ∧ (pack agg avs).lt 0 = true := by
      cases agg with
      | true =>
        refine ⟨.agg cs.toArray, by simp [Value.cells], ?_, ?_, ?_⟩
        · simp only [pack, if_true, Rel]
          exact ⟨cs.toArray, rfl, hr.rel⟩
        · simp only [pack, if_true, known, AV.cells, hr.sca]
        · simp only [pack, if_true, AV.lt, hr.lt]
      | false =>
        obtain ⟨y, rfl, hy⟩ := hs rfl
        have := hr.rel
        cases avs with
        | nil => simp at hcl hav; omega
        | cons a r =>
          simp only [RelL] at this
          obtain ⟨y', s', he, hra, hrr⟩ := this
          simp only [List.cons.injEq] at he
          obtain ⟨rfl, rfl⟩ := he
          have hs2 := hr.sca
          have hl2 := hr.lt
          simp only [allScalar, Bool.and_eq_true] at hs2
          simp only [ltL, Bool.and_eq_true] at hl2
          refine ⟨y, by rw [cells_single hy], by simpa only [pack, Bool.false_eq_true, if_false, List.headD_cons] using hra, ?_, by simpa only [pack, Bool.false_eq_true, if_false, List.headD_cons] using hl2.1⟩
          simp only [pack, Bool.false_eq_true, if_false, List.headD_cons, known]
          have : a.cells = [a] := by
            have := hs2.1
            cases a <;> simp only [AV.scalar] at this <;> first | rfl | cases this
          rw [this]; simp only [allScalar, hs2.1, Bool.and_self]
    obtain ⟨z, hz1, hz2, hz3, hz4⟩ := key
    refine ⟨es ++ [pack agg avs], ys ++ [z], by simp [h1], RelL.append h2 (by simp only [RelL]; exact ⟨z, [], rfl, hz2, rfl⟩), ?_, ?_, by rw [ltL_append, h5]; simp only [ltL, hz4, Bool.and_self], ?_⟩
    · intro y hy
      rcases List.mem_append.1 hy with hy | hy
      · exact h3 y hy
      · rw [List.mem_singleton] at hy
        subst hy
        rw [← Array.length_toList, hz1, hcl]
    · intro k hk
      rw [flat_append] at hk ⊢
      have hfz : flat [z] = cs := by simp [flat, hz1]
      rw [hfz] at hk ⊢
      rw [List.length_append, hfl, hcl] at hk
      rcases Nat.lt_or_ge k (j * sz) with hlt | hge
      · rw [List.getElem?_append_left (by omega)]
        exact h4 k (by omega)
      · rw [List.getElem?_append_right (by omega), hfl]
        have := hcc (k - j * sz) (by omega)
        rw [add_plain, add_plain] at this
        rw [← this]
        congr 2
        omega
    · intro x' hx'
      rcases List.mem_append.1 hx' with hx' | hx'
      · exact h6 x' hx'
      · rw [List.mem_singleton] at hx'
        subst hx'
        exact ⟨hz3, avs, hr.shp, rfl⟩

theorem aggTy_false {e : TypeId} (h : aggTy P e = false) {n : Nat} {sh : Sh} (hsh : shOf P n e = some sh) {m : Nat} {cs : List Value} {x : DataW H × List MemPlace} (ht : DataW.trod enc P W 0 (fun _ => true) true m e cs = some x) : ∃ y, cs = [y] ∧ ∀ z, y ≠ .agg z := by
  cases n with
  | zero => simp [shOf] at hsh
  | succ n =>
    simp only [shOf] at hsh
    split at hsh
    · rename_i hu
      obtain ⟨k, rfl, -, -⟩ := DataW.trod_int hu ht
      exact ⟨_, rfl, fun z hz => by cases hz⟩
    · rename_i hu
      obtain ⟨k, rfl, -⟩ := DataW.trod_bool hu ht
      exact ⟨_, rfl, fun z hz => by cases hz⟩
    · rename_i hu
      rcases DataW.trod_slice hu ht with ⟨rfl, -⟩ | ⟨a, len, cap, _, _, _, _, rfl, _⟩
      · exact ⟨_, rfl, fun z hz => by cases hz⟩
      · exact ⟨_, rfl, fun z hz => by cases hz⟩
    · rename_i hu
      simp [aggTy, hu] at h
    · rename_i hu
      simp [aggTy, hu] at h
    · cases hsh

theorem reads : ∀ (n : Nat) (t : TypeId) (sh : Sh), shOf P n t = some sh → ∀ (m : Nat) (cs : List Value) (x : DataW H × List MemPlace), DataW.trod enc P W 0 (fun _ => true) true m t cs = some x → ∃ avs, ReadOk W sh cs avs
  | 0, t, sh, h, _, _, _, _ => by simp [shOf] at h
  | n + 1, t, sh, h, m, cs, x, hx => by
    simp only [shOf] at h
    split at h
    · rename_i k hu
      injection h with h; subst h
      obtain ⟨z, rfl, -, hw⟩ := DataW.trod_int hu hx
      exact ⟨[.int k z], by simp only [RelL, Rel]; exact ⟨_, [], rfl, rfl, rfl⟩, ⟨z, rfl, hw⟩, rfl, rfl⟩
    · rename_i hu
      injection h with h; subst h
      obtain ⟨z, rfl, -⟩ := DataW.trod_bool hu hx
      exact ⟨[.bool z], by simp only [RelL, Rel]; exact ⟨_, [], rfl, rfl, rfl⟩, ⟨z, rfl⟩, rfl, rfl⟩
    · rename_i e hu
      split at h
      · rename_i hpos
        rw [Option.map_eq_some_iff] at h
        obtain ⟨she, he, rfl⟩ := h
        rcases DataW.trod_slice hu hx with ⟨rfl, -⟩ | ⟨a, len, cap, elems, rest, m', hm, rfl, -, -, hle, hcap, hel, hall, -, -⟩
        · refine ⟨[.sl true []], relL_one (by rw [rel_sl]; exact ⟨none, 0, rfl, ⟨fun _ => rfl, Nat.le_refl _⟩, ⟨rfl, by simp⟩, .inl rfl⟩), ⟨true, [], rfl, by simp⟩, rfl, rfl⟩
        · rcases Nat.eq_zero_or_pos len with h0 | h0
          · subst h0
            refine ⟨[.sl false []], relL_one (by rw [rel_sl]; exact ⟨some a, cap, rfl, ⟨fun h => by simp at h, Nat.zero_le _⟩, ⟨rfl, by simp⟩, .inl rfl⟩), ⟨false, [], rfl, by simp⟩, rfl, rfl⟩
          · obtain ⟨b, o, spot⟩ := a
            have hel' : ∀ i, i < len → ∃ x, (W.cells? 0 (Addr.add ⟨b, o, spot⟩ (i * P.cellsOf e)) (P.cellsOf e)).bind (DataW.trod enc P W 0 (fun _ => true) true m' e) = some x := by
              intro i hi
              rw [hall i hi]
              exact ⟨elems[i]'(by omega), List.getElem?_eq_getElem (by omega)⟩
            have hb0 : b < W.heap.size ∧ spot = none := by
              obtain ⟨y, hy⟩ := hel' 0 h0
              rw [Option.bind_eq_some_iff] at hy
              obtain ⟨c0, hc0, -⟩ := hy
              obtain ⟨-, hl0, hg0⟩ := World.cells?_some hc0
              have g := hg0 0 hpos
              rw [List.getElem?_eq_getElem (by omega)] at g
              have hsp : spot = none := by simpa [Addr.add] using World.cell?_spot g
              subst hsp
              refine ⟨?_, rfl⟩
              rw [add_plain, add_plain] at g
              simp only [World.cell?] at g
              refine Nat.lt_of_not_le fun hle => ?_
              have : W.heap[b]? = none := by simp [hle]
              simp [this] at g
            obtain ⟨hb, rfl⟩ := hb0
            obtain ⟨es, ys, h1, h2, h3, h4, h5, h6⟩ := elems_read (sh := she) (agg := aggTy P e) rfl hpos (fun cs x hx => by
              obtain ⟨avs, ha⟩ := reads n e she he m' cs x hx
              exact ⟨avs, ha, fun hf => aggTy_false hf he hx⟩) hel' len (Nat.le_refl _)
            refine ⟨[.sl false es], ?_, ⟨false, es, rfl, fun x hx => (h6 x hx).2⟩, rfl, rfl⟩
            refine relL_one ?_
            rw [rel_sl]
            refine ⟨some ⟨b, o, none⟩, cap, by rw [h1], ⟨fun h => by simp at h, by omega⟩, ⟨h5, fun x hx => (h6 x hx).1⟩, .inr ⟨b, o, P.cellsOf e, ys, rfl, hb, ?_, h2, h3, h4⟩⟩
            rintro ⟨l, hl⟩
            cases hl
      · cases h
    · rename_i fs hu
      obtain ⟨xs, m', rfl, -, hl, hfl, hall⟩ := DataW.trod_struct hu hx
      have := fields_read (enc := enc) (P := P) (W := W) (rec := shOf P n) (tot := P.cellsOf t) (n := m') (cs := cs) hl (fun t sh h cs x hx => reads n t sh h m' cs x hx) fs.toList 0 sh h (by
        intro f hf
        obtain ⟨i, hi⟩ := List.mem_iff_getElem?.1 hf
        have hi' : fs[i]? = some f := by simpa using hi
        have hlt : i < xs.length := by
          have := (List.getElem?_eq_some_iff.1 hi).1
          simp at this; omega
        exact ⟨xs[i], by rw [hall i f hi', List.getElem?_eq_getElem hlt]⟩)
      simpa using this
    · rename_i k e hu
      split at h
      · rename_i hc
        rw [Option.map_eq_some_iff] at h
        obtain ⟨she, he, rfl⟩ := h
        obtain ⟨xs, m', rfl, -, hl, hxl, hall⟩ := DataW.trod_array hu hx
        have := array_read (enc := enc) (P := P) (W := W) (she := she) (n := m') (cs := cs) (k := k) rfl (by rw [hl, hc]) (fun cs x hx => reads n e she he m' cs x hx) (fun i hi => ⟨xs[i]'(by omega), by rw [hall i hi, List.getElem?_eq_getElem (by omega)]⟩) k (Nat.le_refl _)
        simpa using this
      · cases h
    · cases h

/-- A struct that is handed in. -/
theorem arg_agg {t : TypeId} {fs : Array Field} {n : Nat} {sh : Sh} {r : Reach} {b0 : Nat} {v : Value} {d : DataW H} {ps : List MemPlace} (hu : P.underlying t = some (.struct fs)) (hsh : shOf P n t = some sh) (hval : Value.okWide P W r b0 t v) (hd : DataW.Trod enc P W 0 (fun _ => true) true t v d ps) :
    ∃ avs, Rel (Cx.start W) (.agg avs) v ∧ Shaped sh avs := by
  obtain ⟨cs, rfl, -⟩ := okWide_struct hu hval
  obtain ⟨m, hm⟩ := hd
  obtain ⟨avs, h⟩ := reads n t sh hsh m _ _ hm
  refine ⟨avs, ?_, h.shp⟩
  simp only [Rel]
  exact ⟨cs, rfl, h.rel⟩

/-- A slice that is handed in. -/
theorem arg_sl {t e : TypeId} {n : Nat} {agg : Bool} {she : Sh} {r : Reach} {b0 : Nat} {v : Value} {d : DataW H} {ps : List MemPlace} (hu : P.underlying t = some (.slice e)) (hsh : shOf P n t = some (.sl agg she)) (hval : Value.okWide P W r b0 t v) (hd : DataW.Trod enc P W 0 (fun _ => true) true t v d ps) :
    ∃ f es, Rel (Cx.start W) (.sl f es) v ∧ ∀ x ∈ es, ∃ cs, Shaped she cs ∧ x = pack agg cs := by
  obtain ⟨a, len, cap, rfl⟩ := okWide_slice hu hval
  obtain ⟨m, hm⟩ := hd
  obtain ⟨avs, h⟩ := reads n t _ hsh m _ _ hm
  obtain ⟨f, es, rfl, hs⟩ := h.shp
  have hr := h.rel
  rw [RelL] at hr
  obtain ⟨y, s, he, hy, -⟩ := hr
  simp only [Value.cells, List.cons.injEq] at he
  obtain ⟨rfl, -⟩ := he
  exact ⟨f, es, hy, hs⟩

/-- A reading, behind the call. -/
theorem trod_keep {t : TypeId} (hl : laidOutB P = true) (hr : P.readableRec t = true) (hrow : t < P.types.size) {W' : World} {v : Value} {d : DataW H} {ps : List MemPlace} {sp : Nat → Bool}
    (h : DataW.Trod enc P W 0 (fun _ => true) true t v d ps) (hb : Below W.heap.size W W') (hlt : ∀ x ∈ ps, x.block < W.heap.size) (hs : ∀ x ∈ ps, sp x.block = true) :
    DataW.Trod enc P W' 0 sp true t v d ps :=
  WideElems.Trod_stays hl hr hrow h (fun x hx => hb.same (hlt x hx)) hs

theorem trodAll_keep (hl : laidOutB P = true) {W' : World} {sp : Nat → Bool} (hb : Below W.heap.size W W') : ∀ {ts : List TypeId} {vs : List Value} {ds : List (DataW H)} {ps : List MemPlace}, (∀ t ∈ ts, P.readableRec t = true ∧ t < P.types.size) →
    DataW.TrodAll enc P W 0 (fun _ => true) true ts vs ds ps → (∀ x ∈ ps, x.block < W.heap.size) → (∀ x ∈ ps, sp x.block = true) → DataW.TrodAll enc P W' 0 sp true ts vs ds ps
  | [], [], [], _, _, h, _, _ => h
  | t :: ts, v :: vs, d :: ds, _, ht, ⟨p, q, h1, h2, e⟩, hlt, hs =>
    ⟨p, q, trod_keep hl (ht t (List.mem_cons_self ..)).1 (ht t (List.mem_cons_self ..)).2 h1 hb (fun x hx => hlt x (by rw [e]; exact List.mem_append_left _ hx)) (fun x hx => hs x (by rw [e]; exact List.mem_append_left _ hx)),
      trodAll_keep hl hb (fun t ht' => ht t (List.mem_cons_of_mem _ ht')) h2 (fun x hx => hlt x (by rw [e]; exact List.mem_append_right _ hx)) (fun x hx => hs x (by rw [e]; exact List.mem_append_right _ hx)), e⟩

end

/-- Elements, each of a kind, are a list of that kind. -/
theorem list_of {α : Type} {f : α → AV} : ∀ {es : List AV}, (∀ x ∈ es, ∃ a, x = f a) → ∃ l : List α, es = l.map f
  | [], _ => ⟨[], rfl⟩
  | x :: r, h => by
    obtain ⟨a, rfl⟩ := h x (List.mem_cons_self ..)
    obtain ⟨l, rfl⟩ := list_of fun y hy => h y (List.mem_cons_of_mem _ hy)
    exact ⟨a :: l, rfl⟩

end Go.Ab
/-
  Facts with conditions, for a walk whose conditions are discharged.
-/
namespace Go.Ab
open Go.Proofs
set_option linter.unusedSimpArgs false
set_option linter.unusedVariables false
set_option maxRecDepth 100000

variable {H : Heap}

abbrev I (n : Int) : AV := .int .i64 n

theorem w64 {n : Int} (h1 : -9223372036854775808 ≤ n) (h2 : n < 9223372036854775808) : IntKind.i64.wrap n = n := by
  simp only [IntKind.wrap, IntKind.bits, IntKind.signed]
  have e : (2 : Int) ^ 64 = 18446744073709551616 := by decide
  have e' : (2 : Int) ^ (64 - 1) = 9223372036854775808 := by decide
  simp only [Bool.true_and, decide_eq_true_eq, e, e']
  split <;> omega

theorem i64ok {n : Int} (h : -9223372036854775808 ≤ n ∧ n < 9223372036854775808) : IntKind.i64.wrap n = n := w64 h.1 h.2
theorem i64nat {n : Nat} (h : (n : Int) < 9223372036854775807) : IntKind.i64.wrap ((n : Int) + 1) = ((n + 1 : Nat) : Int) := by rw [w64 (by omega) (by omega)]; rfl
theorem ltT {a b : Int} (h : a < b) : (a < b) = True := eq_true h
theorem ltF {a b : Int} (h : ¬ a < b) : (a < b) = False := eq_false h
theorem leT {a b : Int} (h : a ≤ b) : (a ≤ b) = True := eq_true h
theorem leF {a b : Int} (h : ¬ a ≤ b) : (a ≤ b) = False := eq_false h

theorem SlOk.fI {v : AV} {xs : List Int} (h : SlOk H 1 v (xs.map I)) :
   (∀ (G : Heap) (te : Ty) (k : Int), te.size = 1 → (0 ≤ k ∧ k < xs.length) → idxAddr (H ++ G) te v k = some (elA v k 0)) ∧ 
   (∀ (te : Ty) (k : Int), te.size = 1 → (0 ≤ k ∧ k < xs.length) → idxAddr H te v k = some (elA v k 0)) ∧ 
   (∀ (G : Heap) (te : Ty) (k : Int), (0 ≤ k ∧ k < xs.length) → evLoad (H ++ G) te (elA v k 0) = readPart [I (xs.getD k.toNat 0)] 0 te) ∧
   (∀ (te : Ty) (k : Int), (0 ≤ k ∧ k < xs.length) → evLoad H te (elA v k 0) = readPart [I (xs.getD k.toNat 0)] 0 te) := by
  have key : ∀ k : Int, (0 ≤ k ∧ k < xs.length) → (xs.map I)[k.toNat]? = some (I (xs.getD k.toNat 0)) := by
    intro k hk
    have : k.toNat < xs.length := by omega
    simp [this]
  refine ⟨fun G te k hs hk => ?_, fun te k hs hk => ?_, fun G te k hk => ?_, fun te k hk => ?_⟩
  · exact (h.at hk.1 (key k hk)).2.2.2.1 G te hs
  · exact (h.at hk.1 (key k hk)).1 te hs
  · rw [(h.at hk.1 (key k hk)).2.2.2.2 G 0 te]; rfl
  · rw [(h.at hk.1 (key k hk)).2.1 0 te]; rfl

theorem readOf_makeMap {C : Cfg} {e : Env} {t : TypeId} {m : Option Operand} : readOf C e (.makeMap t m) = none := rfl
theorem readOf_makeSlice {C : Cfg} {e : Env} {t : TypeId} {a b : Operand} : readOf C e (.makeSlice t a b) = none := rfl
theorem readOf_box {C : Cfg} {e : Env} {t : TypeId} {a : Operand} : readOf C e (.box t a) = none := rfl

attribute [go_sem] i64ok i64nat Int.toNat_natCast Nat.mul_one List.length_map decide_true decide_false Bool.true_and Bool.and_true Bool.false_and Bool.and_false Bool.true_or Bool.or_true Bool.false_or Bool.or_false Bool.not_true Bool.not_false Bool.not_not Option.isSome_none Option.isSome_some readOf_makeMap readOf_makeSlice readOf_box List.append_eq

end Go.Ab
/-
  Plain loops: what a loop with an early end finds, and what a loop gathers.
-/
namespace Go.Ab
set_option linter.unusedSimpArgs false
set_option linter.unusedVariables false

/-- Does f hold of one of the q numbers from j on? -/
def anyF (f : Nat → Bool) : Nat → Nat → Bool
  | _, 0 => false
  | j, q + 1 => f j || anyF f (j + 1) q

/-- The first that f yields, of the q numbers from j on. -/
def findF {α : Type} (f : Nat → Option α) : Nat → Nat → Option α
  | _, 0 => none
  | j, q + 1 => match f j with
    | some x => some x
    | none => findF f (j + 1) q

/-- What is gathered over the q numbers from j on. -/
def foldF {β : Type} (g : β → Nat → β) : β → Nat → Nat → β
  | b, _, 0 => b
  | b, j, q + 1 => foldF g (g b j) (j + 1) q

theorem anyF_iff (f : Nat → Bool) : ∀ (q j : Nat), anyF f j q = true ↔ ∃ i, j ≤ i ∧ i < j + q ∧ f i = true
  | 0, j => by simp [anyF]; intro x h1 h2; omega
  | q + 1, j => by
    simp only [anyF, Bool.or_eq_true, anyF_iff f q (j + 1)]
    constructor
    · rintro (h | ⟨i, h1, h2, h3⟩)
      · exact ⟨j, by omega, by omega, h⟩
      · exact ⟨i, by omega, by omega, h3⟩
    · rintro ⟨i, h1, h2, h3⟩
      by_cases e : i = j
      · subst e; exact .inl h3
      · exact .inr ⟨i, by omega, by omega, h3⟩

theorem anyF_false (f : Nat → Bool) (q j : Nat) : anyF f j q = false ↔ ∀ i, j ≤ i → i < j + q → f i = false := by
  rw [← Bool.not_eq_true, anyF_iff]
  constructor
  · intro h i h1 h2
    rw [← Bool.not_eq_true]
    intro h3
    exact h ⟨i, h1, h2, h3⟩
  · rintro h ⟨i, h1, h2, h3⟩
    rw [h i h1 h2] at h3
    cases h3

theorem findF_none {α : Type} (f : Nat → Option α) : ∀ (q j : Nat), findF f j q = none ↔ ∀ i, j ≤ i → i < j + q → f i = none
  | 0, j => by simp [findF]; intro i h1 h2; omega
  | q + 1, j => by
    simp only [findF]
    cases h : f j with
    | some x =>
      simp only [reduceCtorEq, false_iff]
      intro h2
      have := h2 j (by omega) (by omega)
      rw [h] at this; cases this
    | none =>
      simp only
      rw [findF_none f q (j + 1)]
      constructor
      · intro h2 i h3 h4
        by_cases e : i = j
        · subst e; exact h
        · exact h2 i (by omega) (by omega)
      · intro h2 i h3 h4
        exact h2 i (by omega) (by omega)

theorem findF_some {α : Type} (f : Nat → Option α) (x : α) : ∀ (q j : Nat), findF f j q = some x ↔ ∃ i, j ≤ i ∧ i < j + q ∧ f i = some x ∧ ∀ k, j ≤ k → k < i → f k = none
  | 0, j => by
    simp only [findF, reduceCtorEq, false_iff]
    rintro ⟨i, h1, h2, -⟩; omega
  | q + 1, j => by
    simp only [findF]
    cases h : f j with
    | some y =>
      simp only [Option.some.injEq]
      constructor
      · rintro rfl
        exact ⟨j, by omega, by omega, h, fun k h1 h2 => by omega⟩
      · rintro ⟨i, h1, h2, h3, h4⟩
        by_cases e : i = j
        · subst e; rw [h] at h3; injection h3
        · have := h4 j (by omega) (by omega)
          rw [h] at this; cases this
    | none =>
      simp only
      rw [findF_some f x q (j + 1)]
      constructor
      · rintro ⟨i, h1, h2, h3, h4⟩
        refine ⟨i, by omega, by omega, h3, fun k h5 h6 => ?_⟩
        by_cases e : k = j
        · subst e; exact h
        · exact h4 k (by omega) h6
      · rintro ⟨i, h1, h2, h3, h4⟩
        have : i ≠ j := by rintro rfl; rw [h] at h3; cases h3
        exact ⟨i, by omega, by omega, h3, fun k h5 h6 => h4 k (by omega) h6⟩

theorem foldF_inv {β : Type} (g : β → Nat → β) (P : Nat → β → Prop) : ∀ (q j : Nat) (b : β), P j b → (∀ i b, j ≤ i → i < j + q → P i b → P (i + 1) (g b i)) → P (j + q) (foldF g b j q)
  | 0, j, b, h, _ => by simpa [foldF] using h
  | q + 1, j, b, h, hs => by
    have := foldF_inv g P q (j + 1) (g b j) (hs j b (by omega) (by omega) h) (fun i b h1 h2 => hs i b (by omega) (by omega))
    rw [show j + (q + 1) = j + 1 + q by omega]
    exact this

end Go.Ab
/-
  Plain helpers of wring; faces, blocks.
-/
namespace Go.Ab
open Go.Proofs
set_option linter.unusedSimpArgs false
set_option linter.unusedVariables false
set_option maxRecDepth 100000
set_option maxHeartbeats 2000000

variable {H : Heap}

/-- Is a number from one to another one? -/
def wi (n lo hi : Int) : Bool := decide (lo ≤ n) && decide (n ≤ hi)

theorem wi_iff {n lo hi : Int} : wi n lo hi = true ↔ lo ≤ n ∧ n ≤ hi := by simp [wi]
theorem SlOk.fF {α : Type} {f : α → AV} {d : α} {sz : Nat} {v : AV} {xs : List α} (h : SlOk H sz v (xs.map f)) :
   (∀ (G : Heap) (te : Ty) (k : Int), te.size = sz → (0 ≤ k ∧ k < xs.length) → idxAddr (H ++ G) te v k = some (elA v k 0)) ∧
   (∀ (te : Ty) (k : Int), te.size = sz → (0 ≤ k ∧ k < xs.length) → idxAddr H te v k = some (elA v k 0)) ∧
   (∀ (G : Heap) (te : Ty) (k : Int) (off : Nat), (0 ≤ k ∧ k < xs.length) → evLoad (H ++ G) te (elA v k off) = readPart (f (xs.getD k.toNat d)).cells off te) ∧
   (∀ (te : Ty) (k : Int) (off : Nat), (0 ≤ k ∧ k < xs.length) → evLoad H te (elA v k off) = readPart (f (xs.getD k.toNat d)).cells off te) ∧
   (∀ (k : Int) (off o : Nat), addOff (elA v k off) o = some (elA v k (off + o))) := by
  have key : ∀ k : Int, (0 ≤ k ∧ k < xs.length) → (xs.map f)[k.toNat]? = some (f (xs.getD k.toNat d)) := by
    intro k hk
    have : k.toNat < xs.length := by omega
    simp [this]
  refine ⟨fun G te k hs hk => ?_, fun te k hs hk => ?_, fun G te k off hk => ?_, fun te k off hk => ?_, fun k off o => addOff_elA h⟩
  · exact (h.at hk.1 (key k hk)).2.2.2.1 G te hs
  · exact (h.at hk.1 (key k hk)).1 te hs
  · rw [(h.at hk.1 (key k hk)).2.2.2.2 G off te]
  · rw [(h.at hk.1 (key k hk)).2.1 off te]

theorem SlOk.sld {sz : Nat} {v : AV} {xs : List AV} (h : SlOk H sz v xs) (A : Heap) : sealG A H.length v = v := by
  have hl := h.lt0
  obtain ⟨h1, _⟩ := h
  cases v <;> simp only at h1
  · rfl
  · simp only [AV.lt, decide_eq_true_eq] at hl
    simp only [sealG, if_pos hl]

structure Fc where
  lo : Int
  hi : Int
  st : Int
def fc0 : Fc := ⟨0, 0, 0⟩
def Fc.av (f : Fc) : AV := .agg [I f.lo, I f.hi, I f.st]

structure Bk where
  lo : Int
  hi : Int
  f0 : Fc
  f1 : Fc
def bk0 : Bk := ⟨0, 0, fc0, fc0⟩
def Bk.fcs (b : Bk) : List AV := [I b.f0.lo, I b.f0.hi, I b.f0.st, I b.f1.lo, I b.f1.hi, I b.f1.st]
def Bk.av (b : Bk) : AV := .agg [I b.lo, I b.hi, I b.f0.lo, I b.f0.hi, I b.f0.st, I b.f1.lo, I b.f1.hi, I b.f1.st]
def Bk.fc (b : Bk) (k : Nat) : Fc := if k = 0 then b.f0 else b.f1

structure Ap where
  a : Int
  b : Int
def ap0 : Ap := ⟨0, 0⟩
def Ap.av (a : Ap) : AV := .agg [I a.a, I a.b]

/-- A place: a block, and which face is up. -/
structure Pc where
  b : Int
  u : Int
def pc0 : Pc := ⟨0, 0⟩
def Pc.av (p : Pc) : AV := .agg [I p.b, I p.u]

/-- A wring. -/
structure Wg where
  bs : List Bk
  ps : List Ap

def Wg.av (w : Wg) (vb va : AV) : AV := .agg [vb, va]
abbrev Wg.n (w : Wg) : Nat := w.bs.length
abbrev Wg.b (w : Wg) (i : Nat) : Bk := w.bs.getD i bk0
abbrev Wg.a (w : Wg) (i : Nat) : Ap := w.ps.getD i ap0

structure WgAt (H : Heap) (w : Wg) (vb va : AV) : Prop where
  bs : SlOk H 8 vb (w.bs.map Bk.av)
  ps : SlOk H 2 va (w.ps.map Ap.av)

theorem WgAt.app {w : Wg} {vb va : AV} (h : WgAt H w vb va) (G : Heap) : WgAt (H ++ G) w vb va := ⟨h.bs.app G, h.ps.app G⟩

theorem wr_within (n lo hi : Int) (H : Heap) : callFL cfg0 prog0 false 96 [I n, I lo, I hi] H none = some ⟨.ret (.bool (wi n lo hi)), H, none⟩ := by
  refine (callFL_eq fn96 rfl (by simp [Try.f96])).trans ?_
  by_cases h1 : lo ≤ n <;> simp (implicitDefEqProofs := false) only [go_sem, h1, wi]

theorem ref_in (n lo hi : Int) (H : Heap) : callFL cfg0 prog0 false 89 [I n, I lo, I hi] H none = some ⟨.ret (.bool (wi n lo hi)), H, none⟩ := by
  refine (callFL_eq fn89 rfl (by simp [Try.f89])).trans ?_
  by_cases h1 : lo ≤ n <;> simp (implicitDefEqProofs := false) only [go_sem, h1, wi]

theorem wr_must (b : Bool) (e : Int) (H : Heap) : callFL cfg0 prog0 false 53 [.bool b, I e] H none = some ⟨if b then .ret (.tup []) else .pan (.iface 149 (.agg [I e])), H, none⟩ := by
  refine (callFL_eq fn53 rfl (by simp [Try.f53])).trans ?_
  cases b <;> simp (implicitDefEqProofs := false) only [go_sem]

theorem wr_stopn (l : Nat) (H : Heap) : callFL cfg0 prog0 false 49 [.nilIface, .ptr l 0] H none = some ⟨.ret (.tup []), H, none⟩ := by
  refine (callFL_eq fn49 rfl (by simp [Try.f49])).trans ?_
  simp (implicitDefEqProofs := false) only [go_sem]

theorem wr_stops (l : Nat) (x e : Int) (H : Heap) (h : H[l]? = some (.box (I x))) : callFL cfg0 prog0 false 49 [.iface 149 (.agg [I e]), .ptr l 0] H none = some ⟨.ret (.tup []), H.set l (.box (I e)), none⟩ := by
  have hl : l < H.length := (List.getElem?_eq_some_iff.1 h).1
  refine (callFL_eq fn49 rfl (by simp [Try.f49])).trans ?_
  simp (implicitDefEqProofs := false) only [go_sem, get_lt hl, set_lt hl, h]

/-- Whether a span is one, from one number to another one. -/
def spOk (lo hi a b : Int) : Bool := decide (a ≤ lo) && (decide (lo ≤ hi) && decide (hi ≤ b))

theorem wr_span (lo hi a b : Int) (H : Heap) : callFL cfg0 prog0 false 97 [.agg [I lo, I hi], I a, I b] H none = some ⟨.ret (.bool (spOk lo hi a b)), H, none⟩ := by
  refine (callFL_eq fn97 rfl (by simp [Try.f97])).trans ?_
  by_cases h1 : a ≤ lo
  · by_cases h2 : lo ≤ hi
    · by_cases h3 : hi ≤ b <;> simp (implicitDefEqProofs := false) only [go_sem, h1, h2, h3, spOk]
    · simp (implicitDefEqProofs := false) only [go_sem, h1, h2, spOk]
  · simp (implicitDefEqProofs := false) only [go_sem, h1, spOk]

theorem ref_span (lo hi a b : Int) (H : Heap) : callFL cfg0 prog0 false 90 [.agg [I lo, I hi], I a, I b] H none = some ⟨.ret (.bool (spOk lo hi a b)), H, none⟩ := by
  refine (callFL_eq fn90 rfl (by simp [Try.f90])).trans ?_
  by_cases h1 : a ≤ lo
  · by_cases h2 : lo ≤ hi
    · by_cases h3 : hi ≤ b <;> simp (implicitDefEqProofs := false) only [go_sem, h1, h2, h3, spOk]
    · simp (implicitDefEqProofs := false) only [go_sem, h1, h2, spOk]
  · simp (implicitDefEqProofs := false) only [go_sem, h1, spOk]

theorem wr_always (v : AV) (H : Heap) : callFL cfg0 prog0 false 66 [v] H none = some ⟨.ret (.bool true), H, none⟩ := by
  refine (callFL_eq fn66 rfl (by simp [Try.f66])).trans ?_
  simp (maxSteps := 1000000) (implicitDefEqProofs := false) (disch := first | rfl | omega | assumption) only [go_sem, ltT, ltF, leT, leF]

/-! ### Both truths -/

/-- A truth that is looked at: the best one, or the worst one. -/
def vwA (b : Bool) : AV := if b then .iface 98 (.agg [I 1]) else .iface 96 (.agg [I 0])
def lvl (b : Bool) : Int := if b then 1 else 0

theorem wr_worst (n : Int) (f : Fc) (H : Heap) : callFL cfg0 prog0 false 127 [.agg [I n], f.av] H none = some ⟨.ret (.bool (decide (f.st ≤ n))), H, none⟩ := by
  obtain ⟨lo, hi, st⟩ := f
  simp only [Fc.av]
  refine (callFL_eq fn127 rfl (by simp [Try.f127])).trans ?_
  by_cases h : st ≤ n <;> simp (implicitDefEqProofs := false) only [go_sem, h]

theorem wr_best (n : Int) (f : Fc) (H : Heap) : callFL cfg0 prog0 false 128 [.agg [I n], f.av] H none = some ⟨.ret (.bool (decide (f.st ≤ n))), H, none⟩ := by
  have hw := wr_worst n f
  obtain ⟨lo, hi, st⟩ := f
  simp only [Fc.av] at hw ⊢
  refine (callFL_eq fn128 rfl (by simp [Try.f128])).trans ?_
  by_cases h : st ≤ n
  · simp (maxSteps := 1000000) (implicitDefEqProofs := false) (disch := first | rfl | omega | assumption) only [go_sem, ltT, ltF, leT, leF, hw, h]
  · simp (maxSteps := 1000000) (implicitDefEqProofs := false) (disch := first | rfl | omega | assumption) only [go_sem, ltT, ltF, leT, leF, hw, h]

theorem wr_whole (b : Bool) (f : Fc) (H : Heap) : callVL cfg0 prog0 false (.method "blockworks/wring.whole") [vwA b, f.av] [] H none = some ⟨.ret (.bool (decide (f.st ≤ lvl b))), H, none⟩ := by
  have h1 := wr_worst 0 f H
  have h2 := wr_best 1 f H
  cases b
  · simp only [vwA, lvl, Bool.false_eq_true, if_false]
    simp (maxSteps := 1000000) (implicitDefEqProofs := false) (disch := first | rfl | omega | assumption) only [go_sem, ltT, ltF, leT, leF, h1]
  · simp only [vwA, lvl, if_true]
    simp (maxSteps := 1000000) (implicitDefEqProofs := false) (disch := first | rfl | omega | assumption) only [go_sem, ltT, ltF, leT, leF, h2]

theorem wr_optimist (H : Heap) : callFL cfg0 prog0 false 58 [] H none = some ⟨.ret (.agg [I 1]), H, none⟩ := by
  refine (callFL_eq fn58 rfl (by simp [Try.f58])).trans ?_
  simp (maxSteps := 1000000) (implicitDefEqProofs := false) (disch := first | rfl | omega | assumption) only [go_sem, ltT, ltF, leT, leF]

end Go.Ab
/-
  Sums of spans; the faces of all blocks.
-/
namespace Go.Ab
open Go.Proofs
set_option linter.unusedSimpArgs false
set_option linter.unusedVariables false
set_option maxRecDepth 100000
set_option maxHeartbeats 2000000

variable {H : Heap}

def spA (p : Int × Int) : AV := .agg [I p.1, I p.2]
def spB (l : List (Int × Int)) (b : Int) : Prop := ∀ p ∈ l, -b ≤ p.1 ∧ p.1 ≤ b ∧ -b ≤ p.2 ∧ p.2 ≤ b
def sum1 (l : List (Int × Int)) : Int := (l.map (·.1)).sum
def sum2 (l : List (Int × Int)) : Int := (l.map (·.2)).sum

theorem slS {b : Bool} (xs : List (Int × Int)) : SlOk H 2 (.sl b (xs.map spA)) (xs.map spA) := ⟨rfl, fun x hx => by
  obtain ⟨i, _, rfl⟩ := List.mem_map.1 hx; rfl⟩

def sumAt (l : List (Int × Int)) (j : Nat) (a b : Int) : Prop := a = sum1 (l.take j) ∧ b = sum2 (l.take j) ∧ -(1000000 * (j : Int)) ≤ a ∧ a ≤ 1000000 * j ∧ -(1000000 * (j : Int)) ≤ b ∧ b ≤ 1000000 * j

theorem sum_snoc {l : List (Int × Int)} {j : Nat} (h : j < l.length) : sum1 (l.take (j + 1)) = sum1 (l.take j) + (l.getD j (0, 0)).1 ∧ sum2 (l.take (j + 1)) = sum2 (l.take j) + (l.getD j (0, 0)).2 := by
  constructor <;> simp only [sum1, sum2, List.take_succ_eq_append_getElem h, List.map_append, List.map_cons, List.map_nil, List.sum_append, List.sum_cons, List.sum_nil, List.getD_eq_getElem?_getD, List.getElem?_eq_getElem h, Option.getD_some, Int.add_zero]

theorem sum_loop {v : AV} {l : List (Int × Int)} (h : SlOk H 2 v (l.map spA)) (hl : l.length ≤ 1000) (hb : spB l 1000000) :
    ∀ (q j : Nat), j + q = l.length → ∀ (G : Heap), ∀ (a : Int), ∀ (b : Int), sumAt l j a b → ∀ E : Env, E.get 2 = .ptr H.length 0 → E.get 5 = v → E.get 6 = I l.length → E.get 7 = I j →
    Option.map (finishC H.length) (execL cfg0 prog0 ⟨63, none, false, H.length⟩ (todoAt Try.f63 2) ⟨E, [], H ++ (.box (.agg [I a, I b]) :: G), none⟩) = some ⟨.ret (.agg [I (sum1 l), I (sum2 l)]), H, none⟩ := by
  intro q
  obtain ⟨a1, a2, a3, a4, a5⟩ := h.fF (d := (0, 0))
  have t1 := h.ltn 1
  induction q with
  | zero =>
    intro j hj G a b ha E g2 g5 g6 g7
    have hk' : ¬ (j : Int) < ((l.length : Nat) : Int) := by omega
    have e : l.take j = l := List.take_of_length_le (by omega)
    obtain ⟨rfl, rfl, _⟩ := ha
    rw [e]
    simp only [loopIt, todoPast, todoAt, todoOf, firstReg, ↓reduceIte, Option.some.injEq, Nat.reduceEqDiff, reduceCtorEq, Try.f63]
    rw [execL_inLoop]
    simp (maxSteps := 1000000) (implicitDefEqProofs := false) (disch := first | rfl | omega | assumption) only [go_sem, g2, g5, g6, g7, ltT, ltF, leT, leF, hk', t1]
    done
  | succ q ih =>
    intro j hj G a b ha E g2 g5 g6 g7
    have hk' : (j : Int) < ((l.length : Nat) : Int) := by omega
    have hk2 : j < l.length := by omega
    obtain ⟨x, hx⟩ : ∃ x, l.getD j (0, 0) = x := ⟨_, rfl⟩
    obtain ⟨e1, e2⟩ := sum_snoc hk2
    rw [hx] at e1 e2
    have hbx := hb x (by rw [← hx]; simp [hk2])
    obtain ⟨x1, x2⟩ := x
    simp only at e1 e2 hbx
    obtain ⟨h1, h2, h3, h4, h5, h6⟩ := ha
    have hrd : ∀ ty : Ty, readPart (spA (x1, x2)).cells 0 ty = readPart [I x1, I x2] 0 ty := fun _ => rfl
    simp only [loopIt, todoPast, todoAt, todoOf, firstReg, ↓reduceIte, Option.some.injEq, Nat.reduceEqDiff, reduceCtorEq, Try.f63]
    rw [execL_inLoop]
    simp (maxSteps := 1000000) (implicitDefEqProofs := false) (disch := first | rfl | omega | assumption) only [go_sem, g2, g5, g6, g7, ltT, ltF, leT, leF, hk', t1, a1, a2, a3, a4, a5, hx, hrd]
    exact ih (j + 1) (by omega) [.box (.agg [I x1, I x2])] (a + x1) (b + x2) ⟨by rw [e1, h1], by rw [e2, h2], by omega, by omega, by omega, by omega⟩ _ (by rfl) (by rfl) (by rfl) (by rfl)

theorem wr_sum {v : AV} {l : List (Int × Int)} (h : SlOk H 2 v (l.map spA)) (hl : l.length ≤ 1000) (hb : spB l 1000000) : callFL cfg0 prog0 false 63 [v] H none = some ⟨.ret (.agg [I (sum1 l), I (sum2 l)]), H, none⟩ := by
  have h1 := sum_loop h hl hb l.length 0 (by omega) [] 0 0 ⟨rfl, rfl, by omega, by omega, by omega, by omega⟩
  have hln := h.len
  rw [List.length_map] at hln
  have hln' := fun G => (h.app G).len
  simp only [List.length_map] at hln'
  refine (callFL_eq fn63 rfl (by simp [Try.f63])).trans ?_
  simp (maxSteps := 1000000) (implicitDefEqProofs := false) (disch := first | rfl | omega | assumption) only [go_sem, ltT, ltF, leT, leF, hln, hln']
  exact h1 _ (by rfl) (by rfl) (by rfl) (by rfl)

/-! ### Faces -/

def fcsN (g : Nat → Bk) : List AV := (g 0).fcs ++ ((g 1).fcs ++ ((g 2).fcs ++ ((g 3).fcs ++ (g 4).fcs)))

theorem fcsN_len (g : Nat → Bk) : (fcsN g).length = 30 := rfl

theorem rd_face (g : Nat → Bk) {i k : Nat} (hi : i < 5) (hk : k < 2) : readPart (fcsN g) (i * 6 + k * 3) ⟨.struct [(0, 35), (2, 3)], 3, 24, some (.agg #[.int .i64 0, .int .i64 0, .int .i64 0])⟩ = some ((g i).fc k).av := by
  have h1 : i = 0 ∨ i = 1 ∨ i = 2 ∨ i = 3 ∨ i = 4 := by omega
  have h2 : k = 0 ∨ k = 1 := by omega
  rcases h1 with rfl | rfl | rfl | rfl | rfl <;> rcases h2 with rfl | rfl <;> rfl

theorem fcsN_sc (g : Nat → Bk) : allScalar (fcsN g) = true := rfl

theorem wr_above (g : Nat → Bk) {i k : Nat} (hi : i < 5) (hk : k < 2) (H : Heap) : callFL cfg0 prog0 false 61 [.agg (fcsN g), .agg [I i, I k]] H none = some ⟨.ret ((g i).fc k).av, H, none⟩ := by
  have e1 := fcsN_len g
  have e2 := fcsN_sc g
  have e3 := rd_face g hi hk
  simp only [Fc.av] at e3 ⊢
  refine (callFL_eq fn61 rfl (by simp [Try.f61])).trans ?_
  simp (maxSteps := 1000000) (implicitDefEqProofs := false) (disch := first | rfl | omega | assumption) only [go_sem, ltT, ltF, leT, leF, e1, e2]
  rw [chkK_of]; rotate_left; kernel_rfl
  simp (maxSteps := 1000000) (implicitDefEqProofs := false) (disch := first | rfl | omega | assumption) only [go_sem, ltT, ltF, leT, leF, e1, e2, e3]

theorem wr_below (g : Nat → Bk) {i k : Nat} (hi : i < 5) (hk : k < 2) (H : Heap) : callFL cfg0 prog0 false 62 [.agg (fcsN g), .agg [I i, I k]] H none = some ⟨.ret ((g i).fc (1 - k)).av, H, none⟩ := by
  have e1 := fcsN_len g
  have e2 := fcsN_sc g
  have e3 := rd_face g hi (k := 1 - k) (by omega)
  have e4 : IntKind.i64.wrap (1 - (k : Int)) = ((1 - k : Nat) : Int) := by rw [w64 (by omega) (by omega)]; omega
  simp only [Fc.av] at e3 ⊢
  refine (callFL_eq fn62 rfl (by simp [Try.f62])).trans ?_
  simp (maxSteps := 1000000) (implicitDefEqProofs := false) (disch := first | rfl | omega | assumption) only [go_sem, ltT, ltF, leT, leF, e1, e2]
  rw [chkK_of]; rotate_left; kernel_rfl
  simp (maxSteps := 1000000) (implicitDefEqProofs := false) (disch := first | rfl | omega | assumption) only [go_sem, ltT, ltF, leT, leF, e1, e2, e3, e4]

end Go.Ab
