/-
  The tables of the evaluator are the program's: row by row.
-/
import Derived.Test.YtlhnmpclnbpnhaaT0
import Derived.Test.YtlhnmpclnbpnhaaD9
import Derived.Test.YtlhnmpclnbpnhaaE2
import Derived.ProofKit
import Derived.Carry
import Derived.WideShapes
namespace Go.Ab
set_option linter.unusedSimpArgs false
set_option linter.unusedVariables false

theorem getAt_mem {α : Type} : ∀ {l : List (Nat × α)} {k : Nat} {y : α}, getAt l k = some y → (k, y) ∈ l
  | (i, x) :: r, k, y, h => by
    simp only [getAt] at h
    by_cases e : i = k
    · simp only [e, if_pos, Option.some.injEq] at h; subst e; subst h; exact List.mem_cons_self ..
    · rw [if_neg e] at h; exact List.mem_cons_of_mem _ (getAt_mem h)

theorem tyr1 : tyOf prog0 1 = getAt tyL 1 := by kernel_rfl
theorem tyr2 : tyOf prog0 2 = getAt tyL 2 := by kernel_rfl
theorem tyr3 : tyOf prog0 3 = getAt tyL 3 := by kernel_rfl
theorem tyr4 : tyOf prog0 4 = getAt tyL 4 := by kernel_rfl
theorem tyr5 : tyOf prog0 5 = getAt tyL 5 := by kernel_rfl
theorem tyr6 : tyOf prog0 6 = getAt tyL 6 := by kernel_rfl
theorem tyr8 : tyOf prog0 8 = getAt tyL 8 := by kernel_rfl
theorem tyr12 : tyOf prog0 12 = getAt tyL 12 := by kernel_rfl
theorem tyr15 : tyOf prog0 15 = getAt tyL 15 := by kernel_rfl
theorem tyr16 : tyOf prog0 16 = getAt tyL 16 := by kernel_rfl
theorem tyr17 : tyOf prog0 17 = getAt tyL 17 := by kernel_rfl
theorem tyr19 : tyOf prog0 19 = getAt tyL 19 := by kernel_rfl
theorem tyr20 : tyOf prog0 20 = getAt tyL 20 := by kernel_rfl
theorem tyr22 : tyOf prog0 22 = getAt tyL 22 := by kernel_rfl
theorem tyr24 : tyOf prog0 24 = getAt tyL 24 := by kernel_rfl
theorem tyr26 : tyOf prog0 26 = getAt tyL 26 := by kernel_rfl
theorem tyr29 : tyOf prog0 29 = getAt tyL 29 := by kernel_rfl
theorem tyr40 : tyOf prog0 40 = getAt tyL 40 := by kernel_rfl
theorem tyr41 : tyOf prog0 41 = getAt tyL 41 := by kernel_rfl
theorem tyr42 : tyOf prog0 42 = getAt tyL 42 := by kernel_rfl
theorem tyr45 : tyOf prog0 45 = getAt tyL 45 := by kernel_rfl
theorem tyr47 : tyOf prog0 47 = getAt tyL 47 := by kernel_rfl
theorem tyr51 : tyOf prog0 51 = getAt tyL 51 := by kernel_rfl
theorem tyr52 : tyOf prog0 52 = getAt tyL 52 := by kernel_rfl
theorem tyr56 : tyOf prog0 56 = getAt tyL 56 := by kernel_rfl
theorem tyr58 : tyOf prog0 58 = getAt tyL 58 := by kernel_rfl
theorem tyr59 : tyOf prog0 59 = getAt tyL 59 := by kernel_rfl
theorem tyr64 : tyOf prog0 64 = getAt tyL 64 := by kernel_rfl
theorem tyr65 : tyOf prog0 65 = getAt tyL 65 := by kernel_rfl
theorem tyr67 : tyOf prog0 67 = getAt tyL 67 := by kernel_rfl
theorem tyr68 : tyOf prog0 68 = getAt tyL 68 := by kernel_rfl
theorem tyr70 : tyOf prog0 70 = getAt tyL 70 := by kernel_rfl
theorem tyr72 : tyOf prog0 72 = getAt tyL 72 := by kernel_rfl
theorem tyr76 : tyOf prog0 76 = getAt tyL 76 := by kernel_rfl
theorem tyr80 : tyOf prog0 80 = getAt tyL 80 := by kernel_rfl
theorem tyr81 : tyOf prog0 81 = getAt tyL 81 := by kernel_rfl
theorem tyr84 : tyOf prog0 84 = getAt tyL 84 := by kernel_rfl
theorem tyr85 : tyOf prog0 85 = getAt tyL 85 := by kernel_rfl
theorem tyr90 : tyOf prog0 90 = getAt tyL 90 := by kernel_rfl
theorem tyr92 : tyOf prog0 92 = getAt tyL 92 := by kernel_rfl
theorem tyr94 : tyOf prog0 94 = getAt tyL 94 := by kernel_rfl
theorem tyr95 : tyOf prog0 95 = getAt tyL 95 := by kernel_rfl
theorem tyr97 : tyOf prog0 97 = getAt tyL 97 := by kernel_rfl
theorem tyr101 : tyOf prog0 101 = getAt tyL 101 := by kernel_rfl
theorem tyr103 : tyOf prog0 103 = getAt tyL 103 := by kernel_rfl
theorem tyr105 : tyOf prog0 105 = getAt tyL 105 := by kernel_rfl
theorem tyr106 : tyOf prog0 106 = getAt tyL 106 := by kernel_rfl
theorem tyr108 : tyOf prog0 108 = getAt tyL 108 := by kernel_rfl
theorem tyr110 : tyOf prog0 110 = getAt tyL 110 := by kernel_rfl
theorem tyr115 : tyOf prog0 115 = getAt tyL 115 := by kernel_rfl
theorem tyr117 : tyOf prog0 117 = getAt tyL 117 := by kernel_rfl
theorem tyr122 : tyOf prog0 122 = getAt tyL 122 := by kernel_rfl
theorem tyr124 : tyOf prog0 124 = getAt tyL 124 := by kernel_rfl
theorem tyr127 : tyOf prog0 127 = getAt tyL 127 := by kernel_rfl
theorem tyr130 : tyOf prog0 130 = getAt tyL 130 := by kernel_rfl
theorem tyr132 : tyOf prog0 132 = getAt tyL 132 := by kernel_rfl
theorem tyr135 : tyOf prog0 135 = getAt tyL 135 := by kernel_rfl
theorem tyr136 : tyOf prog0 136 = getAt tyL 136 := by kernel_rfl
theorem tyr140 : tyOf prog0 140 = getAt tyL 140 := by kernel_rfl
theorem tyr142 : tyOf prog0 142 = getAt tyL 142 := by kernel_rfl
theorem tyr145 : tyOf prog0 145 = getAt tyL 145 := by kernel_rfl
theorem tyr147 : tyOf prog0 147 = getAt tyL 147 := by kernel_rfl
theorem tyr149 : tyOf prog0 149 = getAt tyL 149 := by kernel_rfl
theorem tyr156 : tyOf prog0 156 = getAt tyL 156 := by kernel_rfl
theorem tyr158 : tyOf prog0 158 = getAt tyL 158 := by kernel_rfl
theorem tyr167 : tyOf prog0 167 = getAt tyL 167 := by kernel_rfl

theorem ty_rows : ∀ k ∈ [1, 2, 3, 4, 5, 6, 8, 12, 15, 16, 17, 19, 20, 22, 24, 26, 29, 40, 41, 42, 45, 47, 51, 52, 56, 58, 59, 64, 65, 67, 68, 70, 72, 76, 80, 81, 84, 85, 90, 92, 94, 95, 97, 101, 103, 105, 106, 108, 110, 115, 117, 122, 124, 127, 130, 132, 135, 136, 140, 142, 145, 147, 149, 156, 158, 167], tyOf prog0 k = getAt tyL k := by
  simp only [List.forall_mem_cons]
  exact ⟨tyr1, tyr2, tyr3, tyr4, tyr5, tyr6, tyr8, tyr12, tyr15, tyr16, tyr17, tyr19, tyr20, tyr22, tyr24, tyr26, tyr29, tyr40, tyr41, tyr42, tyr45, tyr47, tyr51, tyr52, tyr56, tyr58, tyr59, tyr64, tyr65, tyr67, tyr68, tyr70, tyr72, tyr76, tyr80, tyr81, tyr84, tyr85, tyr90, tyr92, tyr94, tyr95, tyr97, tyr101, tyr103, tyr105, tyr106, tyr108, tyr110, tyr115, tyr117, tyr122, tyr124, tyr127, tyr130, tyr132, tyr135, tyr136, tyr140, tyr142, tyr145, tyr147, tyr149, tyr156, tyr158, tyr167, List.forall_mem_nil _⟩

theorem eqr2 : ∀ st ks, getAt eqL 2 = some (st, ks) → eqCells prog0 8 2 = some ks ∧ isStr prog0 2 = st ∧ prog0.eqGuardType prog0.depth 2 = false := fun _ _ h => by
  injection h with h; injection h with h1 h2; subst h1; subst h2
  exact ⟨by kernel_rfl, by kernel_rfl, by kernel_rfl⟩
theorem eqr3 : ∀ st ks, getAt eqL 3 = some (st, ks) → eqCells prog0 8 3 = some ks ∧ isStr prog0 3 = st ∧ prog0.eqGuardType prog0.depth 3 = false := fun _ _ h => by
  injection h with h; injection h with h1 h2; subst h1; subst h2
  exact ⟨by kernel_rfl, by kernel_rfl, by kernel_rfl⟩
theorem eqr4 : ∀ st ks, getAt eqL 4 = some (st, ks) → eqCells prog0 8 4 = some ks ∧ isStr prog0 4 = st ∧ prog0.eqGuardType prog0.depth 4 = false := fun _ _ h => by
  injection h with h; injection h with h1 h2; subst h1; subst h2
  exact ⟨by kernel_rfl, by kernel_rfl, by kernel_rfl⟩
theorem eqr5 : ∀ st ks, getAt eqL 5 = some (st, ks) → eqCells prog0 8 5 = some ks ∧ isStr prog0 5 = st ∧ prog0.eqGuardType prog0.depth 5 = false := fun _ _ h => by
  injection h with h; injection h with h1 h2; subst h1; subst h2
  exact ⟨by kernel_rfl, by kernel_rfl, by kernel_rfl⟩
theorem eqr6 : ∀ st ks, getAt eqL 6 = some (st, ks) → eqCells prog0 8 6 = some ks ∧ isStr prog0 6 = st ∧ prog0.eqGuardType prog0.depth 6 = false := fun _ _ h => by
  injection h with h; injection h with h1 h2; subst h1; subst h2
  exact ⟨by kernel_rfl, by kernel_rfl, by kernel_rfl⟩
theorem eqr8 : ∀ st ks, getAt eqL 8 = some (st, ks) → eqCells prog0 8 8 = some ks ∧ isStr prog0 8 = st ∧ prog0.eqGuardType prog0.depth 8 = false := fun _ _ h => by
  injection h with h; injection h with h1 h2; subst h1; subst h2
  exact ⟨by kernel_rfl, by kernel_rfl, by kernel_rfl⟩
theorem eqr12 : ∀ st ks, getAt eqL 12 = some (st, ks) → eqCells prog0 8 12 = some ks ∧ isStr prog0 12 = st ∧ prog0.eqGuardType prog0.depth 12 = false := fun _ _ h => by
  injection h with h; injection h with h1 h2; subst h1; subst h2
  exact ⟨by kernel_rfl, by kernel_rfl, by kernel_rfl⟩
theorem eqr24 : ∀ st ks, getAt eqL 24 = some (st, ks) → eqCells prog0 8 24 = some ks ∧ isStr prog0 24 = st ∧ prog0.eqGuardType prog0.depth 24 = false := fun _ _ h => by
  injection h with h; injection h with h1 h2; subst h1; subst h2
  exact ⟨by kernel_rfl, by kernel_rfl, by kernel_rfl⟩
theorem eqr29 : ∀ st ks, getAt eqL 29 = some (st, ks) → eqCells prog0 8 29 = some ks ∧ isStr prog0 29 = st ∧ prog0.eqGuardType prog0.depth 29 = false := fun _ _ h => by
  injection h with h; injection h with h1 h2; subst h1; subst h2
  exact ⟨by kernel_rfl, by kernel_rfl, by kernel_rfl⟩
theorem eqr40 : ∀ st ks, getAt eqL 40 = some (st, ks) → eqCells prog0 8 40 = some ks ∧ isStr prog0 40 = st ∧ prog0.eqGuardType prog0.depth 40 = false := fun _ _ h => by
  injection h with h; injection h with h1 h2; subst h1; subst h2
  exact ⟨by kernel_rfl, by kernel_rfl, by kernel_rfl⟩
theorem eqr42 : ∀ st ks, getAt eqL 42 = some (st, ks) → eqCells prog0 8 42 = some ks ∧ isStr prog0 42 = st ∧ prog0.eqGuardType prog0.depth 42 = false := fun _ _ h => by
  injection h with h; injection h with h1 h2; subst h1; subst h2
  exact ⟨by kernel_rfl, by kernel_rfl, by kernel_rfl⟩
theorem eqr58 : ∀ st ks, getAt eqL 58 = some (st, ks) → eqCells prog0 8 58 = some ks ∧ isStr prog0 58 = st ∧ prog0.eqGuardType prog0.depth 58 = false := fun _ _ h => by
  injection h with h; injection h with h1 h2; subst h1; subst h2
  exact ⟨by kernel_rfl, by kernel_rfl, by kernel_rfl⟩
theorem eqr68 : ∀ st ks, getAt eqL 68 = some (st, ks) → eqCells prog0 8 68 = some ks ∧ isStr prog0 68 = st ∧ prog0.eqGuardType prog0.depth 68 = false := fun _ _ h => by
  injection h with h; injection h with h1 h2; subst h1; subst h2
  exact ⟨by kernel_rfl, by kernel_rfl, by kernel_rfl⟩
theorem eqr76 : ∀ st ks, getAt eqL 76 = some (st, ks) → eqCells prog0 8 76 = some ks ∧ isStr prog0 76 = st ∧ prog0.eqGuardType prog0.depth 76 = false := fun _ _ h => by
  injection h with h; injection h with h1 h2; subst h1; subst h2
  exact ⟨by kernel_rfl, by kernel_rfl, by kernel_rfl⟩
theorem eqr84 : ∀ st ks, getAt eqL 84 = some (st, ks) → eqCells prog0 8 84 = some ks ∧ isStr prog0 84 = st ∧ prog0.eqGuardType prog0.depth 84 = false := fun _ _ h => by
  injection h with h; injection h with h1 h2; subst h1; subst h2
  exact ⟨by kernel_rfl, by kernel_rfl, by kernel_rfl⟩
theorem eqr90 : ∀ st ks, getAt eqL 90 = some (st, ks) → eqCells prog0 8 90 = some ks ∧ isStr prog0 90 = st ∧ prog0.eqGuardType prog0.depth 90 = false := fun _ _ h => by
  injection h with h; injection h with h1 h2; subst h1; subst h2
  exact ⟨by kernel_rfl, by kernel_rfl, by kernel_rfl⟩
theorem eqr105 : ∀ st ks, getAt eqL 105 = some (st, ks) → eqCells prog0 8 105 = some ks ∧ isStr prog0 105 = st ∧ prog0.eqGuardType prog0.depth 105 = false := fun _ _ h => by
  injection h with h; injection h with h1 h2; subst h1; subst h2
  exact ⟨by kernel_rfl, by kernel_rfl, by kernel_rfl⟩
theorem eqr106 : ∀ st ks, getAt eqL 106 = some (st, ks) → eqCells prog0 8 106 = some ks ∧ isStr prog0 106 = st ∧ prog0.eqGuardType prog0.depth 106 = false := fun _ _ h => by
  injection h with h; injection h with h1 h2; subst h1; subst h2
  exact ⟨by kernel_rfl, by kernel_rfl, by kernel_rfl⟩
theorem eqr115 : ∀ st ks, getAt eqL 115 = some (st, ks) → eqCells prog0 8 115 = some ks ∧ isStr prog0 115 = st ∧ prog0.eqGuardType prog0.depth 115 = false := fun _ _ h => by
  injection h with h; injection h with h1 h2; subst h1; subst h2
  exact ⟨by kernel_rfl, by kernel_rfl, by kernel_rfl⟩
theorem eqr132 : ∀ st ks, getAt eqL 132 = some (st, ks) → eqCells prog0 8 132 = some ks ∧ isStr prog0 132 = st ∧ prog0.eqGuardType prog0.depth 132 = false := fun _ _ h => by
  injection h with h; injection h with h1 h2; subst h1; subst h2
  exact ⟨by kernel_rfl, by kernel_rfl, by kernel_rfl⟩
theorem eqr147 : ∀ st ks, getAt eqL 147 = some (st, ks) → eqCells prog0 8 147 = some ks ∧ isStr prog0 147 = st ∧ prog0.eqGuardType prog0.depth 147 = false := fun _ _ h => by
  injection h with h; injection h with h1 h2; subst h1; subst h2
  exact ⟨by kernel_rfl, by kernel_rfl, by kernel_rfl⟩
theorem eqr149 : ∀ st ks, getAt eqL 149 = some (st, ks) → eqCells prog0 8 149 = some ks ∧ isStr prog0 149 = st ∧ prog0.eqGuardType prog0.depth 149 = false := fun _ _ h => by
  injection h with h; injection h with h1 h2; subst h1; subst h2
  exact ⟨by kernel_rfl, by kernel_rfl, by kernel_rfl⟩
theorem eqr156 : ∀ st ks, getAt eqL 156 = some (st, ks) → eqCells prog0 8 156 = some ks ∧ isStr prog0 156 = st ∧ prog0.eqGuardType prog0.depth 156 = false := fun _ _ h => by
  injection h with h; injection h with h1 h2; subst h1; subst h2
  exact ⟨by kernel_rfl, by kernel_rfl, by kernel_rfl⟩
theorem eqr158 : ∀ st ks, getAt eqL 158 = some (st, ks) → eqCells prog0 8 158 = some ks ∧ isStr prog0 158 = st ∧ prog0.eqGuardType prog0.depth 158 = false := fun _ _ h => by
  injection h with h; injection h with h1 h2; subst h1; subst h2
  exact ⟨by kernel_rfl, by kernel_rfl, by kernel_rfl⟩
theorem eqr167 : ∀ st ks, getAt eqL 167 = some (st, ks) → eqCells prog0 8 167 = some ks ∧ isStr prog0 167 = st ∧ prog0.eqGuardType prog0.depth 167 = false := fun _ _ h => by
  injection h with h; injection h with h1 h2; subst h1; subst h2
  exact ⟨by kernel_rfl, by kernel_rfl, by kernel_rfl⟩

theorem eq_rows : ∀ k ∈ [2, 3, 4, 5, 6, 8, 12, 24, 29, 40, 42, 58, 68, 76, 84, 90, 105, 106, 115, 132, 147, 149, 156, 158, 167], ∀ st ks, getAt eqL k = some (st, ks) → eqCells prog0 8 k = some ks ∧ isStr prog0 k = st ∧ prog0.eqGuardType prog0.depth k = false := by
  simp only [List.forall_mem_cons]
  exact ⟨eqr2, eqr3, eqr4, eqr5, eqr6, eqr8, eqr12, eqr24, eqr29, eqr40, eqr42, eqr58, eqr68, eqr76, eqr84, eqr90, eqr105, eqr106, eqr115, eqr132, eqr147, eqr149, eqr156, eqr158, eqr167, List.forall_mem_nil _⟩

set_option maxRecDepth 100000 in
theorem fn_rows : ∀ x ∈ fnL, prog0.funcs[x.1]? = some x.2 := by
  simp only [fnL, List.forall_mem_cons]
  exact ⟨Go.Proofs.Try.func0, Go.Proofs.Try.func1, Go.Proofs.Try.func2, Go.Proofs.Try.func3, Go.Proofs.Try.func4, Go.Proofs.Try.func5, Go.Proofs.Try.func6, Go.Proofs.Try.func7, Go.Proofs.Try.func8, Go.Proofs.Try.func9, Go.Proofs.Try.func10, Go.Proofs.Try.func11, Go.Proofs.Try.func12, Go.Proofs.Try.func13, Go.Proofs.Try.func14, Go.Proofs.Try.func15, Go.Proofs.Try.func16, Go.Proofs.Try.func17, Go.Proofs.Try.func18, Go.Proofs.Try.func19, Go.Proofs.Try.func20, Go.Proofs.Try.func21, Go.Proofs.Try.func22, Go.Proofs.Try.func23, Go.Proofs.Try.func24, Go.Proofs.Try.func25, Go.Proofs.Try.func26, Go.Proofs.Try.func27, Go.Proofs.Try.func28, Go.Proofs.Try.func29, Go.Proofs.Try.func30, Go.Proofs.Try.func31, Go.Proofs.Try.func32, Go.Proofs.Try.func33, Go.Proofs.Try.func34, Go.Proofs.Try.func35, Go.Proofs.Try.func36, Go.Proofs.Try.func37, Go.Proofs.Try.func38, Go.Proofs.Try.func39, Go.Proofs.Try.func40, Go.Proofs.Try.func41, Go.Proofs.Try.func42, Go.Proofs.Try.func43, Go.Proofs.Try.func44, Go.Proofs.Try.func45, Go.Proofs.Try.func46, Go.Proofs.Try.func47, Go.Proofs.Try.func48, Go.Proofs.Try.func49, Go.Proofs.Try.func50, Go.Proofs.Try.func51, Go.Proofs.Try.func52, Go.Proofs.Try.func53, Go.Proofs.Try.func54, Go.Proofs.Try.func55, Go.Proofs.Try.func56, Go.Proofs.Try.func57, Go.Proofs.Try.func58, Go.Proofs.Try.func59, Go.Proofs.Try.func60, Go.Proofs.Try.func61, Go.Proofs.Try.func62, Go.Proofs.Try.func63, Go.Proofs.Try.func64, Go.Proofs.Try.func65, Go.Proofs.Try.func66, Go.Proofs.Try.func67, Go.Proofs.Try.func68, Go.Proofs.Try.func69, Go.Proofs.Try.func70, Go.Proofs.Try.func71, Go.Proofs.Try.func72, Go.Proofs.Try.func73, Go.Proofs.Try.func74, Go.Proofs.Try.func75, Go.Proofs.Try.func76, Go.Proofs.Try.func77, Go.Proofs.Try.func78, Go.Proofs.Try.func79, Go.Proofs.Try.func80, Go.Proofs.Try.func81, Go.Proofs.Try.func82, Go.Proofs.Try.func83, Go.Proofs.Try.func84, Go.Proofs.Try.func85, Go.Proofs.Try.func86, Go.Proofs.Try.func87, Go.Proofs.Try.func88, Go.Proofs.Try.func89, Go.Proofs.Try.func90, Go.Proofs.Try.func91, Go.Proofs.Try.func92, Go.Proofs.Try.func93, Go.Proofs.Try.func94, Go.Proofs.Try.func95, Go.Proofs.Try.func96, Go.Proofs.Try.func97, Go.Proofs.Try.func98, Go.Proofs.Try.func99, Go.Proofs.Try.func100, Go.Proofs.Try.func101, Go.Proofs.Try.func102, Go.Proofs.Try.func103, Go.Proofs.Try.func104, Go.Proofs.Try.func105, Go.Proofs.Try.func106, Go.Proofs.Try.func107, Go.Proofs.Try.func108, Go.Proofs.Try.func109, Go.Proofs.Try.func110, Go.Proofs.Try.func111, Go.Proofs.Try.func112, Go.Proofs.Try.func113, Go.Proofs.Try.func114, Go.Proofs.Try.func115, Go.Proofs.Try.func116, Go.Proofs.Try.func117, Go.Proofs.Try.func118, Go.Proofs.Try.func119, Go.Proofs.Try.func120, Go.Proofs.Try.func121, Go.Proofs.Try.func122, Go.Proofs.Try.func123, Go.Proofs.Try.func124, Go.Proofs.Try.func125, Go.Proofs.Try.func126, Go.Proofs.Try.func127, Go.Proofs.Try.func128, Go.Proofs.Try.func129, Go.Proofs.Try.func130, Go.Proofs.Try.func131, Go.Proofs.Try.func132, Go.Proofs.Try.func133, Go.Proofs.Try.func134, Go.Proofs.Try.func135, Go.Proofs.Try.func136, Go.Proofs.Try.func137, List.forall_mem_nil _⟩

theorem meth_rows : (methL.all fun r => r.2.all fun p => methodOf prog0 r.1 p.1 == some p.2) = true := by kernel_rfl

theorem name_rows : (fnL.all fun x => x.2.name != "runtime.NumGoroutine") = true := by kernel_rfl

theorem code_rows : (fnL.all fun x => match x.2.body with
  | some b => codeOk x.2.ntmps b
  | none => true) = true := by kernel_rfl

theorem field_rows : (tyL.all fun x => match x.2.d with
  | .struct fs => fs.all fun p => (getAt tyL p.2).isSome
  | _ => true) = true := by kernel_rfl

theorem keys_ty : tyL.map (·.1) = [1, 2, 3, 4, 5, 6, 8, 12, 15, 16, 17, 19, 20, 22, 24, 26, 29, 40, 41, 42, 45, 47, 51, 52, 56, 58, 59, 64, 65, 67, 68, 70, 72, 76, 80, 81, 84, 85, 90, 92, 94, 95, 97, 101, 103, 105, 106, 108, 110, 115, 117, 122, 124, 127, 130, 132, 135, 136, 140, 142, 145, 147, 149, 156, 158, 167] := rfl
theorem keys_eq : eqL.map (·.1) = [2, 3, 4, 5, 6, 8, 12, 24, 29, 40, 42, 58, 68, 76, 84, 90, 105, 106, 115, 132, 147, 149, 156, 158, 167] := rfl

theorem ok0 : Ok cfg0 prog0 where
  ty t y h := by
    have h' : getAt tyL t = some y := h
    rw [ty_rows t (keys_ty ▸ List.mem_map.2 ⟨_, getAt_mem h', rfl⟩)]; exact h'
  eq t st ks h := by
    have h' : getAt eqL t = some (st, ks) := h
    exact eq_rows t (keys_eq ▸ List.mem_map.2 ⟨_, getAt_mem h', rfl⟩) st ks h'
  meth t n g h := by
    have h' : methT t n = some g := h
    unfold methT at h'
    cases e : getAt methL t with
    | none => rw [e] at h'; exact absurd h' (by simp)
    | some r =>
      rw [e] at h'
      have hm := getAt_mem e
      have ha := List.all_eq_true.1 meth_rows _ hm
      simp only [Option.map_eq_some_iff] at h'
      obtain ⟨p, hp, rfl⟩ := h'
      have h1 := List.find?_some hp
      have h2 := List.mem_of_find?_eq_some hp
      have h3 := List.all_eq_true.1 ha _ h2
      have e1 : p.1 = n := by simpa using h1
      subst e1
      simpa using h3
  glob g v h := by
    have h' : getAt globL g = some v := h
    exact getAt_mem h'
  fns g fn h := by
    have h' : getAt fnL g = some fn := h
    have hm := getAt_mem h'
    have hf := fn_rows (g, fn) hm
    refine ⟨hf, ?_, ?_⟩
    · have := List.all_eq_true.1 name_rows _ hm
      simpa using this
    · intro b hb
      have := List.all_eq_true.1 code_rows _ hm
      simpa only [hb] using this
  fields t y fs h hd x hx := by
    have h' : getAt tyL t = some y := h
    have := List.all_eq_true.1 field_rows _ (getAt_mem h')
    simp only [hd] at this
    exact Option.isSome_iff_exists.1 (List.all_eq_true.1 this _ hx)

end Go.Ab
/-
  The frame that every law of this kind shares: what was there is as it was, and more has been made.
-/
namespace Go.Ab
set_option linter.unusedSimpArgs false
set_option linter.unusedVariables false
open Go.ChangeShapes Go.RowKit

/-- A law, by the evaluator's limit. -/
theorem law_calls {C : Cfg} {P : Program} (ok : Ok C P) {f : FuncId} {args : List AV} {vals : List Value} {W : World} {H : Heap} {p : Option (AV × Bool)} (h : callFL C P false f args [] none = some ⟨.ret (.bool true), H, p⟩)
    (hg : GlobOk (Cx.start W)) (hr : RelL (Cx.start W) args vals) : Calls P f vals.toArray W fun e w' => e = .returned (.bool true) ∧ Below W.heap.size W w' := by
  obtain ⟨n, hn⟩ := lim_ex h
  exact calls_true ok hn rfl hg hr

theorem post_below {P : Program} {T : Type} {enc : TypeId × Value → T} {f : Func} {s : ChangeSpec} {apart fresh handsOn again : Bool} {W W' : World} {args : Array Value} {v : Value} {ds gs : List (DataW T)} {before pa pv : List MemPlace}
    (hW : DataW.Whole enc P f.params.toList s.vars apart W args.toList ds gs before)
    (hres : ∀ (b : Nat) (sp : Nat → Bool) (hd : Bool), DataW.TrodAll enc P W' b sp hd f.resultTypes.toList (v.resultList f.resultTypes.size) (s.fn T (ds ++ gs)).results [])
    (hargs : ∀ sp : Nat → Bool, (∀ p ∈ before, sp p.block = true) → DataW.TrodAll enc P W' 0 sp true f.params.toList args.toList (s.fn T (ds ++ gs)).args pa)
    (hvars : ∀ sp : Nat → Bool, (∀ p ∈ before, sp p.block = true) → DataW.TrodVars enc P W' sp s.vars (s.fn T (ds ++ gs)).vars pv)
    (hps : before = pa ++ pv) (hb : Below W.heap.size W W')
    (hok : ∀ (j : Nat) (t : TypeId) (r : Value), f.resultTypes[j]? = some t → (v.resultList f.resultTypes.size)[j]? = some r → Value.okWide P W' .any 0 t r) :
    s.post enc P f apart fresh handsOn again W args v W' := by
  have hold : ∀ p ∈ before, (fun b => decide (b < W.heap.size)) p.block = true := fun p hp => by simpa using hW.lt p hp
  have hlt : ∀ p ∈ before, p.block < W.heap.size := hW.lt
  refine ⟨ds, gs, before, [], pa, pv, hW, hres _ _ _, hargs _ hold, hvars _ hold, World.keptBut_mono (fun p hp => ⟨hp, ?_⟩) (hb.frame (fun p => p ∈ before)), fun _ => ?_⟩
  · rw [hps, List.mem_append] at hp
    exact Or.inr hp
  · obtain ⟨_, _, _, _, _, hz, hn⟩ := hW
    refine ⟨hok, _, _, ([] ++ pa) ++ pv, ⟨[] ++ pa, pv, trodAll_append (hargs _ (fun _ _ => rfl)) (hres _ _ _), hvars _ (fun _ _ => rfl), rfl, ?_, ?_⟩, ?_⟩
    · intro b off hp
      have hm : MemPlace.cell b off ∈ before := by rw [hps]; simpa using hp
      rw [hb.frozen (p := ⟨b, off, none⟩) (hlt _ hm)]
      exact hz b off hm
    · intro ha
      have := hn ha
      rw [hps] at this
      simpa using this
    · intro p hp _
      rw [hps]
      simpa using hp

end Go.Ab
/-
  From arguments that can be read as data to what the evaluator takes: integers, bools, structs and slices of such.
-/
namespace Go.Ab
set_option linter.unusedSimpArgs false
set_option linter.unusedVariables false
open Go.ChangeShapes Go.RowKit Go.WideShapes

/-- The shape of plain data. -/
inductive Sh where
  | int (k : IntKind)
  | bool
  | sl (agg : Bool) (e : Sh)
  | unit
  | cons (a r : Sh)

def aggTy (P : Program) (t : TypeId) : Bool :=
  match P.underlying t with
  | some (.struct _) => true
  | _ => false

def shFields (P : Program) (rec : TypeId → Option Sh) (tot : Nat) : List Field → Nat → Option Sh
  | [], off => if off = tot then some .unit else none
  | f :: r, off =>
    if f.offset = off then
      match rec f.type, shFields P rec tot r (off + P.cellsOf f.type) with
      | some a, some b => some (.cons a b)
      | _, _ => none
    else none

def shOf (P : Program) : Nat → TypeId → Option Sh
  | 0, _ => none
  | n + 1, t =>
    match P.underlying t with
    | some (.int k) => some (.int k)
    | some .bool => some .bool
    | some (.slice e) => if 0 < P.cellsOf e then (shOf P n e).map (.sl (aggTy P e)) else none
    | some (.struct fs) => shFields P (shOf P n) (P.cellsOf t) fs.toList 0
    | _ => none

def pack (agg : Bool) (cs : List AV) : AV := if agg then .agg cs else cs.headD .undef

def Shaped : Sh → List AV → Prop
  | .int k, l => ∃ n, l = [.int k n] ∧ (Lit.int k n).wf = true
  | .bool, l => ∃ b, l = [.bool b]
  | .sl agg e, l => ∃ f es, l = [.sl f es] ∧ ∀ x ∈ es, ∃ cs, Shaped e cs ∧ x = pack agg cs
  | .unit, l => l = []
  | .cons a r, l => ∃ x y, l = x ++ y ∧ Shaped a x ∧ Shaped r y

theorem rel_sl {c : Cx} {f : Bool} {es : List AV} {v : Value} : Rel c (.sl f es) v = (∃ a cap, v = .slice a es.length cap ∧ ((f = true → cap = es.length) ∧ es.length ≤ cap) ∧ (ltL 0 es = true ∧ ∀ x ∈ es, known x = true) ∧
      (es = [] ∨ ∃ b o sz ys, a = some ⟨b, o, none⟩ ∧ b < c.w.heap.size ∧ ¬ c.owned b ∧ RelL c es ys ∧ (∀ y ∈ ys, y.cells.size = sz) ∧ Lies c.w b o (flat ys))) := by
  rw [Rel]

theorem relL_one {c : Cx} {v : AV} {y : Value} (h : Rel c v y) : RelL c [v] [y] := by
  simp only [RelL]
  exact ⟨y, [], rfl, h, rfl⟩

/-- What is told of cells that have been read. -/
structure ReadOk (W : World) (sh : Sh) (cs : List Value) (avs : List AV) : Prop where
  rel : RelL (Cx.start W) avs cs
  shp : Shaped sh avs
  lt : ltL 0 avs = true
  sca : allScalar avs = true

theorem shFields_le {P : Program} {rec : TypeId → Option Sh} {tot : Nat} : ∀ (fs : List Field) (off : Nat) (sh : Sh), shFields P rec tot fs off = some sh → off ≤ tot
  | [], off, sh, h => by
    simp only [shFields] at h
    split at h
    · omega
    · cases h
  | f :: r, off, sh, h => by
    simp only [shFields] at h
    split at h
    · split at h
      · rename_i hb
        have := shFields_le r _ _ hb
        omega
      · cases h
    · cases h

section
variable {H : Type} {enc : TypeId × Value → H} {P : Program} {W : World}

theorem fields_read {rec : TypeId → Option Sh} {tot n : Nat} {cs : List Value} (hl : cs.length = tot)
    (ih : ∀ t sh, rec t = some sh → ∀ cs x, DataW.trod enc P W 0 (fun _ => true) true n t cs = some x → ∃ avs, ReadOk W sh cs avs) :
    ∀ (fs : List Field) (off : Nat) (sh : Sh), shFields P rec tot fs off = some sh →
      (∀ f ∈ fs, ∃ x, DataW.trod enc P W 0 (fun _ => true) true n f.type ((cs.drop f.offset).take (P.cellsOf f.type)) = some x) → ∃ avs, ReadOk W sh (cs.drop off) avs
  | [], off, sh, h, _ => by
    simp only [shFields] at h
    split at h
    · rename_i e
      injection h with h
      subst h
      exact ⟨[], by rw [List.drop_eq_nil_of_le (by omega)]; simp only [RelL], rfl, rfl, rfl⟩
    · cases h
  | f :: r, off, sh, h, hf => by
    simp only [shFields] at h
    split at h
    · rename_i e
      split at h
      · rename_i a b ha hb
        injection h with h
        subst h
        obtain ⟨x, hx⟩ := hf f (List.mem_cons_self ..)
        rw [e] at hx
        obtain ⟨avs, h1⟩ := ih f.type a ha _ x hx
        obtain ⟨bvs, h2⟩ := fields_read hl ih r _ b hb fun g hg => hf g (List.mem_cons_of_mem _ hg)
        refine ⟨avs ++ bvs, ?_, ⟨avs, bvs, rfl, h1.shp, h2.shp⟩, by rw [ltL_append, h1.lt, h2.lt]; rfl, by rw [allScalar_append, h1.sca, h2.sca]; rfl⟩
        have : cs.drop off = (cs.drop off).take (P.cellsOf f.type) ++ cs.drop (off + P.cellsOf f.type) := by
          rw [← List.drop_drop, List.take_append_drop]
        rw [this]
        exact RelL.append h1.rel h2.rel
      · cases h
    · cases h

theorem cells_single {y : Value} (h : ∀ cs, y ≠ .agg cs) : y.cells = #[y] := by
  cases y <;> first | rfl | exact absurd rfl (h _)

theorem elems_read {n sz : Nat} {e : TypeId} {sh : Sh} {agg : Bool} {b o : Nat} (hsz : P.cellsOf e = sz) (hpos : 0 < sz)
    (ih : ∀ cs x, DataW.trod enc P W 0 (fun _ => true) true n e cs = some x → ∃ avs, ReadOk W sh cs avs ∧ (agg = false → ∃ y, cs = [y] ∧ ∀ z, y ≠ .agg z)) {len : Nat}
    (hel : ∀ i, i < len → ∃ x, (W.cells? 0 (Addr.add ⟨b, o, none⟩ (i * sz)) sz).bind (DataW.trod enc P W 0 (fun _ => true) true n e) = some x) :
    ∀ j, j ≤ len → ∃ es ys, es.length = j ∧ RelL (Cx.start W) es ys ∧ (∀ y ∈ ys, y.cells.size = sz) ∧ Lies W b o (flat ys) ∧ ltL 0 es = true ∧ ∀ x ∈ es, known x = true ∧ ∃ cs, Shaped sh cs ∧ x = pack agg cs
  | 0, _ => ⟨[], [], rfl, by simp only [RelL], by simp, by intro k hk; simp [flat] at hk, rfl, by simp⟩
  | j + 1, hj => by
    obtain ⟨es, ys, h1, h2, h3, h4, h5, h6⟩ := elems_read hsz hpos ih hel j (by omega)
    obtain ⟨x, hx⟩ := hel j (by omega)
    rw [Option.bind_eq_some_iff] at hx
    obtain ⟨cs, hc, ht⟩ := hx
    obtain ⟨-, hcl, hcc⟩ := World.cells?_some hc
    obtain ⟨avs, hr, hs⟩ := ih cs x ht
    have hyl : ys.length = j := by rw [← h2.length, h1]
    have hfl : (flat ys).length = j * sz := by rw [flat_length h3, hyl]
    have hav : avs.length = sz := by rw [hr.rel.length, hcl]
    have key : ∃ z : Value, z.cells.toList = cs ∧ Rel (Cx.start W) (pack agg avs) z ∧ known (pack agg avs) = true ∧ (pack agg avs).lt 0 = true := by
      cases agg with
      | true =>
        refine ⟨.agg cs.toArray, by simp [Value.cells], ?_, ?_, ?_⟩
        · simp only [pack, if_true, Rel]
          exact ⟨cs.toArray, rfl, hr.rel⟩
        · simp only [pack, if_true, known, AV.cells, hr.sca]
        · simp only [pack, if_true, AV.lt, hr.lt]
      | false =>
        obtain ⟨y, rfl, hy⟩ := hs rfl
        have := hr.rel
        cases avs with
        | nil => simp at hcl hav; omega
        | cons a r =>
          simp only [RelL] at this
          obtain ⟨y', s', he, hra, hrr⟩ := this
          simp only [List.cons.injEq] at he
          obtain ⟨rfl, rfl⟩ := he
          have hs2 := hr.sca
          have hl2 := hr.lt
          simp only [allScalar, Bool.and_eq_true] at hs2
          simp only [ltL, Bool.and_eq_true] at hl2
          refine ⟨y, by rw [cells_single hy], by simpa only [pack, Bool.false_eq_true, if_false, List.headD_cons] using hra, ?_, by simpa only [pack, Bool.false_eq_true, if_false, List.headD_cons] using hl2.1⟩
          simp only [pack, Bool.false_eq_true, if_false, List.headD_cons, known]
          have : a.cells = [a] := by
            have := hs2.1
            cases a <;> simp only [AV.scalar] at this <;> first | rfl | cases this
          rw [this]; simp only [allScalar, hs2.1, Bool.and_self]
    obtain ⟨z, hz1, hz2, hz3, hz4⟩ := key
    refine ⟨es ++ [pack agg avs], ys ++ [z], by simp [h1], RelL.append h2 (by simp only [RelL]; exact ⟨z, [], rfl, hz2, rfl⟩), ?_, ?_, by rw [ltL_append, h5]; simp only [ltL, hz4, Bool.and_self], ?_⟩
    · intro y hy
      rcases List.mem_append.1 hy with hy | hy
      · exact h3 y hy
      · rw [List.mem_singleton] at hy
        subst hy
        rw [← Array.length_toList, hz1, hcl]
    · intro k hk
      rw [flat_append] at hk ⊢
      have hfz : flat [z] = cs := by simp [flat, hz1]
      rw [hfz] at hk ⊢
      rw [List.length_append, hfl, hcl] at hk
      rcases Nat.lt_or_ge k (j * sz) with hlt | hge
      · rw [List.getElem?_append_left (by omega)]
        exact h4 k (by omega)
      · rw [List.getElem?_append_right (by omega), hfl]
        have := hcc (k - j * sz) (by omega)
        rw [add_plain, add_plain] at this
        rw [← this]
        congr 2
        omega
    · intro x' hx'
      rcases List.mem_append.1 hx' with hx' | hx'
      · exact h6 x' hx'
      · rw [List.mem_singleton] at hx'
        subst hx'
        exact ⟨hz3, avs, hr.shp, rfl⟩

theorem aggTy_false {e : TypeId} (h : aggTy P e = false) {n : Nat} {sh : Sh} (hsh : shOf P n e = some sh) {m : Nat} {cs : List Value} {x : DataW H × List MemPlace} (ht : DataW.trod enc P W 0 (fun _ => true) true m e cs = some x) : ∃ y, cs = [y] ∧ ∀ z, y ≠ .agg z := by
  cases n with
  | zero => simp [shOf] at hsh
  | succ n =>
    simp only [shOf] at hsh
    split at hsh
    · rename_i hu
      obtain ⟨k, rfl, -, -⟩ := DataW.trod_int hu ht
      exact ⟨_, rfl, fun z hz => by cases hz⟩
    · rename_i hu
      obtain ⟨k, rfl, -⟩ := DataW.trod_bool hu ht
      exact ⟨_, rfl, fun z hz => by cases hz⟩
    · rename_i hu
      rcases DataW.trod_slice hu ht with ⟨rfl, -⟩ | ⟨a, len, cap, _, _, _, _, rfl, _⟩
      · exact ⟨_, rfl, fun z hz => by cases hz⟩
      · exact ⟨_, rfl, fun z hz => by cases hz⟩
    · rename_i hu
      simp [aggTy, hu] at h
    · cases hsh

theorem reads : ∀ (n : Nat) (t : TypeId) (sh : Sh), shOf P n t = some sh → ∀ (m : Nat) (cs : List Value) (x : DataW H × List MemPlace), DataW.trod enc P W 0 (fun _ => true) true m t cs = some x → ∃ avs, ReadOk W sh cs avs
  | 0, t, sh, h, _, _, _, _ => by simp [shOf] at h
  | n + 1, t, sh, h, m, cs, x, hx => by
    simp only [shOf] at h
    split at h
    · rename_i k hu
      injection h with h; subst h
      obtain ⟨z, rfl, -, hw⟩ := DataW.trod_int hu hx
      exact ⟨[.int k z], by simp only [RelL, Rel]; exact ⟨_, [], rfl, rfl, rfl⟩, ⟨z, rfl, hw⟩, rfl, rfl⟩
    · rename_i hu
      injection h with h; subst h
      obtain ⟨z, rfl, -⟩ := DataW.trod_bool hu hx
      exact ⟨[.bool z], by simp only [RelL, Rel]; exact ⟨_, [], rfl, rfl, rfl⟩, ⟨z, rfl⟩, rfl, rfl⟩
    · rename_i e hu
      split at h
      · rename_i hpos
        rw [Option.map_eq_some_iff] at h
        obtain ⟨she, he, rfl⟩ := h
        rcases DataW.trod_slice hu hx with ⟨rfl, -⟩ | ⟨a, len, cap, elems, rest, m', hm, rfl, -, -, hle, hcap, hel, hall, -, -⟩
        · refine ⟨[.sl true []], relL_one (by rw [rel_sl]; exact ⟨none, 0, rfl, ⟨fun _ => rfl, Nat.le_refl _⟩, ⟨rfl, by simp⟩, .inl rfl⟩), ⟨true, [], rfl, by simp⟩, rfl, rfl⟩
        · rcases Nat.eq_zero_or_pos len with h0 | h0
          · subst h0
            refine ⟨[.sl false []], relL_one (by rw [rel_sl]; exact ⟨some a, cap, rfl, ⟨fun h => by simp at h, Nat.zero_le _⟩, ⟨rfl, by simp⟩, .inl rfl⟩), ⟨false, [], rfl, by simp⟩, rfl, rfl⟩
          · obtain ⟨b, o, spot⟩ := a
            have hel' : ∀ i, i < len → ∃ x, (W.cells? 0 (Addr.add ⟨b, o, spot⟩ (i * P.cellsOf e)) (P.cellsOf e)).bind (DataW.trod enc P W 0 (fun _ => true) true m' e) = some x := by
              intro i hi
              rw [hall i hi]
              exact ⟨elems[i]'(by omega), List.getElem?_eq_getElem (by omega)⟩
            have hb0 : b < W.heap.size ∧ spot = none := by
              obtain ⟨y, hy⟩ := hel' 0 h0
              rw [Option.bind_eq_some_iff] at hy
              obtain ⟨c0, hc0, -⟩ := hy
              obtain ⟨-, hl0, hg0⟩ := World.cells?_some hc0
              have g := hg0 0 hpos
              rw [List.getElem?_eq_getElem (by omega)] at g
              have hsp : spot = none := by simpa [Addr.add] using World.cell?_spot g
              subst hsp
              refine ⟨?_, rfl⟩
              rw [add_plain, add_plain] at g
              simp only [World.cell?] at g
              refine Nat.lt_of_not_le fun hle => ?_
              have : W.heap[b]? = none := by simp [hle]
              simp [this] at g
            obtain ⟨hb, rfl⟩ := hb0
            obtain ⟨es, ys, h1, h2, h3, h4, h5, h6⟩ := elems_read (sh := she) (agg := aggTy P e) rfl hpos (fun cs x hx => by
              obtain ⟨avs, ha⟩ := reads n e she he m' cs x hx
              exact ⟨avs, ha, fun hf => aggTy_false hf he hx⟩) hel' len (Nat.le_refl _)
            refine ⟨[.sl false es], ?_, ⟨false, es, rfl, fun x hx => (h6 x hx).2⟩, rfl, rfl⟩
            refine relL_one ?_
            rw [rel_sl]
            refine ⟨some ⟨b, o, none⟩, cap, by rw [h1], ⟨fun h => by simp at h, by omega⟩, ⟨h5, fun x hx => (h6 x hx).1⟩, .inr ⟨b, o, P.cellsOf e, ys, rfl, hb, ?_, h2, h3, h4⟩⟩
            rintro ⟨l, hl⟩
            cases hl
      · cases h
    · rename_i fs hu
      obtain ⟨xs, m', rfl, -, hl, hfl, hall⟩ := DataW.trod_struct hu hx
      have := fields_read (enc := enc) (P := P) (W := W) (rec := shOf P n) (tot := P.cellsOf t) (n := m') (cs := cs) hl (fun t sh h cs x hx => reads n t sh h m' cs x hx) fs.toList 0 sh h (by
        intro f hf
        obtain ⟨i, hi⟩ := List.mem_iff_getElem?.1 hf
        have hi' : fs[i]? = some f := by simpa using hi
        have hlt : i < xs.length := by
          have := (List.getElem?_eq_some_iff.1 hi).1
          simp at this; omega
        exact ⟨xs[i], by rw [hall i f hi', List.getElem?_eq_getElem hlt]⟩)
      simpa using this
    · cases h

/-- A struct that is handed in. -/
theorem arg_agg {t : TypeId} {fs : Array Field} {n : Nat} {sh : Sh} {r : Reach} {b0 : Nat} {v : Value} {d : DataW H} {ps : List MemPlace} (hu : P.underlying t = some (.struct fs)) (hsh : shOf P n t = some sh) (hval : Value.okWide P W r b0 t v) (hd : DataW.Trod enc P W 0 (fun _ => true) true t v d ps) :
    ∃ avs, Rel (Cx.start W) (.agg avs) v ∧ Shaped sh avs := by
  obtain ⟨cs, rfl, -⟩ := okWide_struct hu hval
  obtain ⟨m, hm⟩ := hd
  obtain ⟨avs, h⟩ := reads n t sh hsh m _ _ hm
  refine ⟨avs, ?_, h.shp⟩
  simp only [Rel]
  exact ⟨cs, rfl, h.rel⟩

/-- A slice that is handed in. -/
theorem arg_sl {t e : TypeId} {n : Nat} {agg : Bool} {she : Sh} {r : Reach} {b0 : Nat} {v : Value} {d : DataW H} {ps : List MemPlace} (hu : P.underlying t = some (.slice e)) (hsh : shOf P n t = some (.sl agg she)) (hval : Value.okWide P W r b0 t v) (hd : DataW.Trod enc P W 0 (fun _ => true) true t v d ps) :
    ∃ f es, Rel (Cx.start W) (.sl f es) v ∧ ∀ x ∈ es, ∃ cs, Shaped she cs ∧ x = pack agg cs := by
  obtain ⟨a, len, cap, rfl⟩ := okWide_slice hu hval
  obtain ⟨m, hm⟩ := hd
  obtain ⟨avs, h⟩ := reads n t _ hsh m _ _ hm
  obtain ⟨f, es, rfl, hs⟩ := h.shp
  have hr := h.rel
  rw [RelL] at hr
  obtain ⟨y, s, he, hy, -⟩ := hr
  simp only [Value.cells, List.cons.injEq] at he
  obtain ⟨rfl, -⟩ := he
  exact ⟨f, es, hy, hs⟩

/-- A reading, behind the call. -/
theorem trod_keep {t : TypeId} (hl : laidOutB P = true) (hr : P.readableRec t = true) (hrow : t < P.types.size) {W' : World} {v : Value} {d : DataW H} {ps : List MemPlace} {sp : Nat → Bool}
    (h : DataW.Trod enc P W 0 (fun _ => true) true t v d ps) (hb : Below W.heap.size W W') (hlt : ∀ x ∈ ps, x.block < W.heap.size) (hs : ∀ x ∈ ps, sp x.block = true) :
    DataW.Trod enc P W' 0 sp true t v d ps :=
  WideElems.Trod_stays hl hr hrow h (fun x hx => hb.same (hlt x hx)) hs

theorem trodAll_keep (hl : laidOutB P = true) {W' : World} {sp : Nat → Bool} (hb : Below W.heap.size W W') : ∀ {ts : List TypeId} {vs : List Value} {ds : List (DataW H)} {ps : List MemPlace}, (∀ t ∈ ts, P.readableRec t = true ∧ t < P.types.size) →
    DataW.TrodAll enc P W 0 (fun _ => true) true ts vs ds ps → (∀ x ∈ ps, x.block < W.heap.size) → (∀ x ∈ ps, sp x.block = true) → DataW.TrodAll enc P W' 0 sp true ts vs ds ps
  | [], [], [], _, _, h, _, _ => h
  | t :: ts, v :: vs, d :: ds, _, ht, ⟨p, q, h1, h2, e⟩, hlt, hs =>
    ⟨p, q, trod_keep hl (ht t (List.mem_cons_self ..)).1 (ht t (List.mem_cons_self ..)).2 h1 hb (fun x hx => hlt x (by rw [e]; exact List.mem_append_left _ hx)) (fun x hx => hs x (by rw [e]; exact List.mem_append_left _ hx)),
      trodAll_keep hl hb (fun t ht' => ht t (List.mem_cons_of_mem _ ht')) h2 (fun x hx => hlt x (by rw [e]; exact List.mem_append_right _ hx)) (fun x hx => hs x (by rw [e]; exact List.mem_append_right _ hx)), e⟩

end

/-- Elements, each of a kind, are a list of that kind. -/
theorem list_of {α : Type} {f : α → AV} : ∀ {es : List AV}, (∀ x ∈ es, ∃ a, x = f a) → ∃ l : List α, es = l.map f
  | [], _ => ⟨[], rfl⟩
  | x :: r, h => by
    obtain ⟨a, rfl⟩ := h x (List.mem_cons_self ..)
    obtain ⟨l, rfl⟩ := list_of fun y hy => h y (List.mem_cons_of_mem _ hy)
    exact ⟨a :: l, rfl⟩

end Go.Ab
/-
  Facts with conditions, for a walk whose conditions are discharged.
-/
namespace Go.Ab
open Go.Proofs
set_option linter.unusedSimpArgs false
set_option linter.unusedVariables false
set_option maxRecDepth 100000

variable {H : Heap}

abbrev I (n : Int) : AV := .int .i64 n

theorem w64 {n : Int} (h1 : -9223372036854775808 ≤ n) (h2 : n < 9223372036854775808) : IntKind.i64.wrap n = n := by
  simp only [IntKind.wrap, IntKind.bits, IntKind.signed]
  have e : (2 : Int) ^ 64 = 18446744073709551616 := by decide
  have e' : (2 : Int) ^ (64 - 1) = 9223372036854775808 := by decide
  simp only [Bool.true_and, decide_eq_true_eq, e, e']
  split <;> omega

theorem i64ok {n : Int} (h : -9223372036854775808 ≤ n ∧ n < 9223372036854775808) : IntKind.i64.wrap n = n := w64 h.1 h.2
theorem i64nat {n : Nat} (h : (n : Int) < 9223372036854775807) : IntKind.i64.wrap ((n : Int) + 1) = ((n + 1 : Nat) : Int) := by rw [w64 (by omega) (by omega)]; rfl
theorem ltT {a b : Int} (h : a < b) : (a < b) = True := eq_true h
theorem ltF {a b : Int} (h : ¬ a < b) : (a < b) = False := eq_false h
theorem leT {a b : Int} (h : a ≤ b) : (a ≤ b) = True := eq_true h
theorem leF {a b : Int} (h : ¬ a ≤ b) : (a ≤ b) = False := eq_false h

theorem SlOk.fI {v : AV} {xs : List Int} (h : SlOk H 1 v (xs.map I)) :
   (∀ (G : Heap) (te : Ty) (k : Int), te.size = 1 → (0 ≤ k ∧ k < xs.length) → idxAddr (H ++ G) te v k = some (elA v k 0)) ∧ 
   (∀ (te : Ty) (k : Int), te.size = 1 → (0 ≤ k ∧ k < xs.length) → idxAddr H te v k = some (elA v k 0)) ∧ 
   (∀ (G : Heap) (te : Ty) (k : Int), (0 ≤ k ∧ k < xs.length) → evLoad (H ++ G) te (elA v k 0) = readPart [I (xs.getD k.toNat 0)] 0 te) ∧
   (∀ (te : Ty) (k : Int), (0 ≤ k ∧ k < xs.length) → evLoad H te (elA v k 0) = readPart [I (xs.getD k.toNat 0)] 0 te) := by
  have key : ∀ k : Int, (0 ≤ k ∧ k < xs.length) → (xs.map I)[k.toNat]? = some (I (xs.getD k.toNat 0)) := by
    intro k hk
    have : k.toNat < xs.length := by omega
    simp [this]
  refine ⟨fun G te k hs hk => ?_, fun te k hs hk => ?_, fun G te k hk => ?_, fun te k hk => ?_⟩
  · exact (h.at hk.1 (key k hk)).2.2.2.1 G te hs
  · exact (h.at hk.1 (key k hk)).1 te hs
  · rw [(h.at hk.1 (key k hk)).2.2.2.2 G 0 te]; rfl
  · rw [(h.at hk.1 (key k hk)).2.1 0 te]; rfl

theorem readOf_makeMap {C : Cfg} {e : Env} {t : TypeId} {m : Option Operand} : readOf C e (.makeMap t m) = none := rfl
theorem readOf_makeSlice {C : Cfg} {e : Env} {t : TypeId} {a b : Operand} : readOf C e (.makeSlice t a b) = none := rfl
theorem readOf_box {C : Cfg} {e : Env} {t : TypeId} {a : Operand} : readOf C e (.box t a) = none := rfl

/-- What waits for a condition: both ways. -/
theorem cond_both {β : Type} {F : Done → β} {R : Option β} {b : Bool} {s : St} {f g : St → Option Done} (h1 : b = true → Option.map F (f s) = R) (h2 : b = false → Option.map F (g s) = R) : Option.map F (condK (.bool b) s f g) = R := by
  cases b
  · exact h2 rfl
  · exact h1 rfl

theorem guard_both {β : Type} {F : Done → β} {R : Option β} {b w : Bool} {s : St} {f g : St → Option RR} {k : St → Option Done} {p : AV → St → Option Done} (h1 : b = true → Option.map F (regK (guardK (.bool true) w s f g) k p) = R) (h2 : b = false → Option.map F (regK (guardK (.bool false) w s f g) k p) = R) : Option.map F (regK (guardK (.bool b) w s f g) k p) = R := by
  cases b
  · exact h2 rfl
  · exact h1 rfl

theorem call_both {β : Type} {F : Done → β} {R : Option β} {b : Bool} {x y : Done} {k p : AV → Heap → Option RR} {k' : St → Option Done} {p' : AV → St → Option Done} (h1 : b = true → Option.map F (regK (callK (some x) k p) k' p') = R) (h2 : b = false → Option.map F (regK (callK (some y) k p) k' p') = R) : Option.map F (regK (callK (some (if b = true then x else y)) k p) k' p') = R := by
  cases b
  · exact h2 rfl
  · exact h1 rfl

theorem cond_split {β : Type} {F : Done → β} {R : Option β} {b : Bool} {s : St} {f g : St → Option Done} (h1 : b = true → b = true → b = true → Option.map F (f s) = R) (h2 : b = false → b = false → b = false → Option.map F (g s) = R) : Option.map F (condK (.bool b) s f g) = R :=
  cond_both (fun h => h1 h h h) fun h => h2 h h h

theorem cond_dec {β : Type} {F : Done → β} {R : Option β} {p : Prop} [Decidable p] {s : St} {f g : St → Option Done} (h1 : p → p → p → Option.map F (f s) = R) (h2 : ¬ p → ¬ p → ¬ p → Option.map F (g s) = R) : Option.map F (condK (.bool (decide p)) s f g) = R :=
  cond_both (fun h => h1 (of_decide_eq_true h) (of_decide_eq_true h) (of_decide_eq_true h)) fun h => h2 (of_decide_eq_false h) (of_decide_eq_false h) (of_decide_eq_false h)

theorem cond_not {β : Type} {F : Done → β} {R : Option β} {b : Bool} {s : St} {f g : St → Option Done} (h1 : b = false → b = false → b = false → Option.map F (f s) = R) (h2 : b = true → b = true → b = true → Option.map F (g s) = R) : Option.map F (condK (.bool !b) s f g) = R :=
  cond_both (fun h => h1 (by simpa using h) (by simpa using h) (by simpa using h)) fun h => h2 (by simpa using h) (by simpa using h) (by simpa using h)

theorem cond_ndec {β : Type} {F : Done → β} {R : Option β} {p : Prop} [Decidable p] {s : St} {f g : St → Option Done} (h1 : ¬ p → ¬ p → ¬ p → Option.map F (f s) = R) (h2 : p → p → p → Option.map F (g s) = R) : Option.map F (condK (.bool !decide p) s f g) = R :=
  cond_both (fun h => h1 (by simpa using h) (by simpa using h) (by simpa using h)) fun h => h2 (by simpa using h) (by simpa using h) (by simpa using h)

theorem cond_beq {β : Type} {F : Done → β} {R : Option β} {x y : Int} {s : St} {f g : St → Option Done} (h1 : (x == y) = true → x = y → (x == y) = true → Option.map F (f s) = R) (h2 : (x == y) = false → ¬ x = y → (x == y) = false → Option.map F (g s) = R) : Option.map F (condK (.bool (x == y)) s f g) = R :=
  cond_both (fun h => h1 h (by simpa using h) h) fun h => h2 h (by simpa using h) h

theorem cond_bne {β : Type} {F : Done → β} {R : Option β} {x y : Int} {s : St} {f g : St → Option Done} (h1 : (x != y) = true → ¬ x = y → (x == y) = false → Option.map F (f s) = R) (h2 : (x != y) = false → x = y → (x == y) = true → Option.map F (g s) = R) : Option.map F (condK (.bool (x != y)) s f g) = R :=
  cond_both (fun h => h1 h (by simpa using h) (by simpa using h)) fun h => h2 h (by simpa using h) (by simpa using h)

theorem cond_ifb {β : Type} {F : Done → β} {R : Option β} {b : Bool} {x y z : Int} {s : St} {f g : St → Option Done} (h1 : b = true → b = true → b = true → Option.map F (condK (.bool (x != z)) s f g) = R) (h2 : b = false → b = false → b = false → Option.map F (condK (.bool (y != z)) s f g) = R) : Option.map F (condK (.bool ((if b = true then x else y) != z)) s f g) = R := by
  cases b
  · exact h2 rfl rfl rfl
  · exact h1 rfl rfl rfl

theorem guard_split {β : Type} {F : Done → β} {R : Option β} {b : Bool} {w : Bool} {s : St} {f g : St → Option RR} {k : St → Option Done} {q : AV → St → Option Done} (h1 : b = true → b = true → b = true → Option.map F (regK (guardK (.bool true) w s f g) k q) = R) (h2 : b = false → b = false → b = false → Option.map F (regK (guardK (.bool false) w s f g) k q) = R) : Option.map F (regK (guardK (.bool b) w s f g) k q) = R :=
  guard_both (fun h => h1 h h h) fun h => h2 h h h

theorem guard_dec {β : Type} {F : Done → β} {R : Option β} {p : Prop} [Decidable p] {w : Bool} {s : St} {f g : St → Option RR} {k : St → Option Done} {q : AV → St → Option Done} (h1 : p → p → p → Option.map F (regK (guardK (.bool true) w s f g) k q) = R) (h2 : ¬ p → ¬ p → ¬ p → Option.map F (regK (guardK (.bool false) w s f g) k q) = R) : Option.map F (regK (guardK (.bool (decide p)) w s f g) k q) = R :=
  guard_both (fun h => h1 (of_decide_eq_true h) (of_decide_eq_true h) (of_decide_eq_true h)) fun h => h2 (of_decide_eq_false h) (of_decide_eq_false h) (of_decide_eq_false h)

theorem guard_not {β : Type} {F : Done → β} {R : Option β} {b : Bool} {w : Bool} {s : St} {f g : St → Option RR} {k : St → Option Done} {q : AV → St → Option Done} (h1 : b = false → b = false → b = false → Option.map F (regK (guardK (.bool true) w s f g) k q) = R) (h2 : b = true → b = true → b = true → Option.map F (regK (guardK (.bool false) w s f g) k q) = R) : Option.map F (regK (guardK (.bool !b) w s f g) k q) = R :=
  guard_both (fun h => h1 (by simpa using h) (by simpa using h) (by simpa using h)) fun h => h2 (by simpa using h) (by simpa using h) (by simpa using h)

theorem guard_ndec {β : Type} {F : Done → β} {R : Option β} {p : Prop} [Decidable p] {w : Bool} {s : St} {f g : St → Option RR} {k : St → Option Done} {q : AV → St → Option Done} (h1 : ¬ p → ¬ p → ¬ p → Option.map F (regK (guardK (.bool true) w s f g) k q) = R) (h2 : p → p → p → Option.map F (regK (guardK (.bool false) w s f g) k q) = R) : Option.map F (regK (guardK (.bool !decide p) w s f g) k q) = R :=
  guard_both (fun h => h1 (by simpa using h) (by simpa using h) (by simpa using h)) fun h => h2 (by simpa using h) (by simpa using h) (by simpa using h)

theorem guard_beq {β : Type} {F : Done → β} {R : Option β} {x y : Int} {w : Bool} {s : St} {f g : St → Option RR} {k : St → Option Done} {q : AV → St → Option Done} (h1 : (x == y) = true → x = y → (x == y) = true → Option.map F (regK (guardK (.bool true) w s f g) k q) = R) (h2 : (x == y) = false → ¬ x = y → (x == y) = false → Option.map F (regK (guardK (.bool false) w s f g) k q) = R) : Option.map F (regK (guardK (.bool (x == y)) w s f g) k q) = R :=
  guard_both (fun h => h1 h (by simpa using h) h) fun h => h2 h (by simpa using h) h

theorem guard_bne {β : Type} {F : Done → β} {R : Option β} {x y : Int} {w : Bool} {s : St} {f g : St → Option RR} {k : St → Option Done} {q : AV → St → Option Done} (h1 : (x != y) = true → ¬ x = y → (x == y) = false → Option.map F (regK (guardK (.bool true) w s f g) k q) = R) (h2 : (x != y) = false → x = y → (x == y) = true → Option.map F (regK (guardK (.bool false) w s f g) k q) = R) : Option.map F (regK (guardK (.bool (x != y)) w s f g) k q) = R :=
  guard_both (fun h => h1 h (by simpa using h) (by simpa using h)) fun h => h2 h (by simpa using h) (by simpa using h)

theorem guard_ifb {β : Type} {F : Done → β} {R : Option β} {b : Bool} {x y z : Int} {w : Bool} {s : St} {f g : St → Option RR} {k : St → Option Done} {q : AV → St → Option Done} (h1 : b = true → b = true → b = true → Option.map F (regK (guardK (.bool (x != z)) w s f g) k q) = R) (h2 : b = false → b = false → b = false → Option.map F (regK (guardK (.bool (y != z)) w s f g) k q) = R) : Option.map F (regK (guardK (.bool ((if b = true then x else y) != z)) w s f g) k q) = R := by
  cases b
  · exact h2 rfl rfl rfl
  · exact h1 rfl rfl rfl

theorem call_ifb {β : Type} {F : Done → β} {R : Option β} {b : Bool} {x y : Out} {H' : Heap} {q : Option (AV × Bool)} {k p : AV → Heap → Option RR} {k' : St → Option Done} {p' : AV → St → Option Done} (h1 : b = true → b = true → b = true → Option.map F (regK (callK (some ⟨x, H', q⟩) k p) k' p') = R) (h2 : b = false → b = false → b = false → Option.map F (regK (callK (some ⟨y, H', q⟩) k p) k' p') = R) : Option.map F (regK (callK (some ⟨if b = true then x else y, H', q⟩) k p) k' p') = R := by
  cases b
  · exact h2 rfl rfl rfl
  · exact h1 rfl rfl rfl

theorem call_ifd {β : Type} {F : Done → β} {R : Option β} {b : Bool} {x y : Done} {k p : AV → Heap → Option RR} {k' : St → Option Done} {p' : AV → St → Option Done} (h1 : b = true → b = true → b = true → Option.map F (regK (callK (some x) k p) k' p') = R) (h2 : b = false → b = false → b = false → Option.map F (regK (callK (some y) k p) k' p') = R) : Option.map F (regK (callK (some (if b = true then x else y)) k p) k' p') = R :=
  call_both (fun h => h1 h h h) fun h => h2 h h h

theorem call_beq {β : Type} {F : Done → β} {R : Option β} {a b : Int} {x y : Out} {H' : Heap} {q : Option (AV × Bool)} {k p : AV → Heap → Option RR} {k' : St → Option Done} {p' : AV → St → Option Done} (h1 : (a == b) = true → a = b → (a == b) = true → Option.map F (regK (callK (some ⟨x, H', q⟩) k p) k' p') = R) (h2 : (a == b) = false → ¬ a = b → (a == b) = false → Option.map F (regK (callK (some ⟨y, H', q⟩) k p) k' p') = R) : Option.map F (regK (callK (some ⟨if (a == b) = true then x else y, H', q⟩) k p) k' p') = R :=
  call_ifb (fun h _ _ => h1 h (by simpa using h) h) fun h _ _ => h2 h (by simpa using h) h

theorem call_dec {β : Type} {F : Done → β} {R : Option β} {c : Prop} [Decidable c] {x y : Out} {H' : Heap} {q : Option (AV × Bool)} {k p : AV → Heap → Option RR} {k' : St → Option Done} {p' : AV → St → Option Done} (h1 : c → c → c → Option.map F (regK (callK (some ⟨x, H', q⟩) k p) k' p') = R) (h2 : ¬ c → ¬ c → ¬ c → Option.map F (regK (callK (some ⟨y, H', q⟩) k p) k' p') = R) : Option.map F (regK (callK (some ⟨if c then x else y, H', q⟩) k p) k' p') = R := by
  by_cases h : c
  · rw [if_pos h]; exact h1 h h h
  · rw [if_neg h]; exact h2 h h h

attribute [go_sem] i64ok i64nat Int.toNat_natCast Nat.mul_one List.length_map decide_true decide_false Bool.true_and Bool.and_true Bool.false_and Bool.and_false Bool.true_or Bool.or_true Bool.false_or Bool.or_false Bool.not_true Bool.not_false Bool.not_not Option.isSome_none Option.isSome_some readOf_makeMap readOf_makeSlice readOf_box List.append_eq

end Go.Ab
/-
  Plain helpers of fringe, colour and the references.
-/
namespace Go.Ab
open Go.Proofs
set_option linter.unusedSimpArgs false
set_option linter.unusedVariables false
set_option maxRecDepth 100000

variable {H : Heap}

/-- Is a number from one to another one? -/
def wi (n lo hi : Int) : Bool := decide (lo ≤ n) && decide (n ≤ hi)

theorem fr_within (n lo hi : Int) (H : Heap) : callFL cfg0 prog0 false 106 [I n, I lo, I hi] H none = some ⟨.ret (.bool (wi n lo hi)), H, none⟩ := by
  refine (callFL_eq fn106 rfl (by simp [Try.f106])).trans ?_
  by_cases h1 : lo ≤ n <;> simp (implicitDefEqProofs := false) only [go_sem, ↓reduceIte, Nat.reduceEqDiff, Nat.reduceAdd, Nat.reduceLeDiff, Nat.reduceBEq, Nat.reduceMul, Nat.reduceLT, Int.reduceLT, Int.reduceLE, Int.reduceToNat, Int.reduceNeg, Int.reduceEq, Int.reduceMul, reduceCtorEq, Int.reduceBEq, Int.reduceBNe, Int.reduceAdd, Int.reduceSub, h1, wi]

theorem co_within (n lo hi : Int) (H : Heap) : callFL cfg0 prog0 false 95 [I n, I lo, I hi] H none = some ⟨.ret (.bool (wi n lo hi)), H, none⟩ := by
  refine (callFL_eq fn95 rfl (by simp [Try.f95])).trans ?_
  by_cases h1 : lo ≤ n <;> simp (implicitDefEqProofs := false) only [go_sem, ↓reduceIte, Nat.reduceEqDiff, Nat.reduceAdd, Nat.reduceLeDiff, Nat.reduceBEq, Nat.reduceMul, Nat.reduceLT, Int.reduceLT, Int.reduceLE, Int.reduceToNat, Int.reduceNeg, Int.reduceEq, Int.reduceMul, reduceCtorEq, Int.reduceBEq, Int.reduceBNe, Int.reduceAdd, Int.reduceSub, h1, wi]

theorem ref_in (n lo hi : Int) (H : Heap) : callFL cfg0 prog0 false 52 [I n, I lo, I hi] H none = some ⟨.ret (.bool (wi n lo hi)), H, none⟩ := by
  refine (callFL_eq fn52 rfl (by simp [Try.f52])).trans ?_
  by_cases h1 : lo ≤ n <;> simp (implicitDefEqProofs := false) only [go_sem, ↓reduceIte, Nat.reduceEqDiff, Nat.reduceAdd, Nat.reduceLeDiff, Nat.reduceBEq, Nat.reduceMul, Nat.reduceLT, Int.reduceLT, Int.reduceLE, Int.reduceToNat, Int.reduceNeg, Int.reduceEq, Int.reduceMul, reduceCtorEq, Int.reduceBEq, Int.reduceBNe, Int.reduceAdd, Int.reduceSub, h1, wi]

theorem fr_isLength (n : Int) (H : Heap) : callFL cfg0 prog0 false 88 [I n] H none = some ⟨.ret (.bool (wi n 0 2000)), H, none⟩ := by
  refine (callFL_eq fn88 rfl (by simp [Try.f88])).trans ?_
  simp (implicitDefEqProofs := false) only [go_sem, ↓reduceIte, Nat.reduceEqDiff, Nat.reduceAdd, Nat.reduceLeDiff, Nat.reduceBEq, Nat.reduceMul, Nat.reduceLT, Int.reduceLT, Int.reduceLE, Int.reduceToNat, Int.reduceNeg, Int.reduceEq, Int.reduceMul, reduceCtorEq, Int.reduceBEq, Int.reduceBNe, Int.reduceAdd, Int.reduceSub, fr_within]

theorem co_isLength (n : Int) (H : Heap) : callFL cfg0 prog0 false 47 [I n] H none = some ⟨.ret (.bool (wi n 0 2000)), H, none⟩ := by
  refine (callFL_eq fn47 rfl (by simp [Try.f47])).trans ?_
  simp (implicitDefEqProofs := false) only [go_sem, ↓reduceIte, Nat.reduceEqDiff, Nat.reduceAdd, Nat.reduceLeDiff, Nat.reduceBEq, Nat.reduceMul, Nat.reduceLT, Int.reduceLT, Int.reduceLE, Int.reduceToNat, Int.reduceNeg, Int.reduceEq, Int.reduceMul, reduceCtorEq, Int.reduceBEq, Int.reduceBNe, Int.reduceAdd, Int.reduceSub, co_within]

end Go.Ab
/-
  How many fringes a length has.
-/
namespace Go.Ab
open Go.Proofs
set_option linter.unusedSimpArgs false
set_option linter.unusedVariables false
set_option maxRecDepth 100000

variable {H : Heap}

/-- The part of a fringe that a length leaves. -/
def ptZ (w n : Int) : Int := 20 * (n % w) / w

theorem ptZ_bd {w n : Int} (hw : 1 ≤ w) : 0 ≤ ptZ w n ∧ ptZ w n < 20 := by
  have h1 := Int.emod_nonneg n (show w ≠ 0 by omega)
  have h2 := Int.emod_lt_of_pos n (show 0 < w by omega)
  refine ⟨Int.ediv_nonneg (by omega) (by omega), Int.ediv_lt_of_lt_mul (by omega) (by omega)⟩

theorem fr_of (w n : Int) (hw : 1 ≤ w ∧ w ≤ 60) (hn : 0 ≤ n ∧ n ≤ 2000) (H : Heap) : callFL cfg0 prog0 false 91 [I w, I n] H none = some ⟨.ret (.agg [I (n / w), I (ptZ w n)]), H, none⟩ := by
  have h1 := Int.emod_nonneg n (show w ≠ 0 by omega)
  have h2 := Int.emod_lt_of_pos n (show 0 < w by omega)
  have z : ¬ w = 0 := by omega
  have t1 : n.tdiv w = n / w := Int.tdiv_eq_ediv_of_nonneg hn.1
  have t2 : n.tmod w = n % w := Int.tmod_eq_emod_of_nonneg hn.1
  have t3 : (20 * (n % w)).tdiv w = ptZ w n := Int.tdiv_eq_ediv_of_nonneg (by omega)
  have b1 := ptZ_bd (w := w) (n := n) (by omega)
  have b2 : 0 ≤ n / w := Int.ediv_nonneg hn.1 (by omega)
  have b3 : n / w ≤ n := Int.ediv_le_self _ hn.1
  have c1 : IntKind.i64.wrap (n / w) = n / w := w64 (by omega) (by omega)
  have c2 : IntKind.i64.wrap (20 * (n % w)) = 20 * (n % w) := w64 (by omega) (by omega)
  have c3 : IntKind.i64.wrap (ptZ w n) = ptZ w n := w64 (by omega) (by omega)
  refine (callFL_eq fn91 rfl (by simp [Try.f91])).trans ?_
  simp (implicitDefEqProofs := false) only [go_sem, ↓reduceIte, Nat.reduceEqDiff, Nat.reduceAdd, Nat.reduceLeDiff, Nat.reduceBEq, Nat.reduceMul, Nat.reduceLT, Int.reduceLT, Int.reduceLE, Int.reduceToNat, Int.reduceNeg, Int.reduceEq, Int.reduceMul, reduceCtorEq, Int.reduceBEq, Int.reduceBNe, Int.reduceAdd, Int.reduceSub]
  rw [chkK_of]; rotate_left; kernel_rfl
  simp (implicitDefEqProofs := false) only [go_sem, ↓reduceIte, Nat.reduceEqDiff, Nat.reduceAdd, Nat.reduceLeDiff, Nat.reduceBEq, Nat.reduceMul, Nat.reduceLT, Int.reduceLT, Int.reduceLE, Int.reduceToNat, Int.reduceNeg, Int.reduceEq, Int.reduceMul, reduceCtorEq, Int.reduceBEq, Int.reduceBNe, Int.reduceAdd, Int.reduceSub, z, t1, t2, t3, c1, c2, c3]

end Go.Ab
/-
  Stops.
-/
namespace Go.Ab
open Go.Proofs
set_option linter.unusedSimpArgs false
set_option linter.unusedVariables false
set_option maxRecDepth 100000

variable {H : Heap}

theorem co_must (b : Bool) (e : Int) (H : Heap) : callFL cfg0 prog0 false 75 [.bool b, I e] H none = some ⟨if b then .ret (.tup []) else .pan (.iface 115 (.agg [I e])), H, none⟩ := by
  refine (callFL_eq fn75 rfl (by simp [Try.f75])).trans ?_
  cases b <;> simp (implicitDefEqProofs := false) only [go_sem, ↓reduceIte, Nat.reduceEqDiff, Nat.reduceAdd, Nat.reduceLeDiff, Nat.reduceBEq, Nat.reduceMul, Nat.reduceLT, Int.reduceLT, Int.reduceLE, Int.reduceToNat, Int.reduceNeg, Int.reduceEq, Int.reduceMul, reduceCtorEq, Int.reduceBEq, Int.reduceBNe, Int.reduceAdd, Int.reduceSub]

theorem co_stopn (l : Nat) (H : Heap) : callFL cfg0 prog0 false 43 [.nilIface, .ptr l 0] H none = some ⟨.ret (.tup []), H, none⟩ := by
  refine (callFL_eq fn43 rfl (by simp [Try.f43])).trans ?_
  simp (implicitDefEqProofs := false) only [go_sem, ↓reduceIte, Nat.reduceEqDiff, Nat.reduceAdd, Nat.reduceLeDiff, Nat.reduceBEq, Nat.reduceMul, Nat.reduceLT, Int.reduceLT, Int.reduceLE, Int.reduceToNat, Int.reduceNeg, Int.reduceEq, Int.reduceMul, reduceCtorEq, Int.reduceBEq, Int.reduceBNe, Int.reduceAdd, Int.reduceSub]

theorem co_stops (l : Nat) (x e : Int) (H : Heap) (h : H[l]? = some (.box (I x))) : callFL cfg0 prog0 false 43 [.iface 115 (.agg [I e]), .ptr l 0] H none = some ⟨.ret (.tup []), H.set l (.box (I e)), none⟩ := by
  have hl : l < H.length := (List.getElem?_eq_some_iff.1 h).1
  refine (callFL_eq fn43 rfl (by simp [Try.f43])).trans ?_
  simp (implicitDefEqProofs := false) only [go_sem, ↓reduceIte, Nat.reduceEqDiff, Nat.reduceAdd, Nat.reduceLeDiff, Nat.reduceBEq, Nat.reduceMul, Nat.reduceLT, Int.reduceLT, Int.reduceLE, Int.reduceToNat, Int.reduceNeg, Int.reduceEq, Int.reduceMul, reduceCtorEq, Int.reduceBEq, Int.reduceBNe, Int.reduceAdd, Int.reduceSub, get_lt hl, set_lt hl, h]

theorem fr_must (b : Bool) (e : Int) (H : Heap) : callFL cfg0 prog0 false 105 [.bool b, I e] H none = some ⟨if b then .ret (.tup []) else .pan (.iface 132 (.agg [I e])), H, none⟩ := by
  refine (callFL_eq fn105 rfl (by simp [Try.f105])).trans ?_
  cases b <;> simp (implicitDefEqProofs := false) only [go_sem, ↓reduceIte, Nat.reduceEqDiff, Nat.reduceAdd, Nat.reduceLeDiff, Nat.reduceBEq, Nat.reduceMul, Nat.reduceLT, Int.reduceLT, Int.reduceLE, Int.reduceToNat, Int.reduceNeg, Int.reduceEq, Int.reduceMul, reduceCtorEq, Int.reduceBEq, Int.reduceBNe, Int.reduceAdd, Int.reduceSub]

theorem fr_stopn (l : Nat) (H : Heap) : callFL cfg0 prog0 false 85 [.nilIface, .ptr l 0] H none = some ⟨.ret (.tup []), H, none⟩ := by
  refine (callFL_eq fn85 rfl (by simp [Try.f85])).trans ?_
  simp (implicitDefEqProofs := false) only [go_sem, ↓reduceIte, Nat.reduceEqDiff, Nat.reduceAdd, Nat.reduceLeDiff, Nat.reduceBEq, Nat.reduceMul, Nat.reduceLT, Int.reduceLT, Int.reduceLE, Int.reduceToNat, Int.reduceNeg, Int.reduceEq, Int.reduceMul, reduceCtorEq, Int.reduceBEq, Int.reduceBNe, Int.reduceAdd, Int.reduceSub]

theorem fr_stops (l : Nat) (x e : Int) (H : Heap) (h : H[l]? = some (.box (I x))) : callFL cfg0 prog0 false 85 [.iface 132 (.agg [I e]), .ptr l 0] H none = some ⟨.ret (.tup []), H.set l (.box (I e)), none⟩ := by
  have hl : l < H.length := (List.getElem?_eq_some_iff.1 h).1
  refine (callFL_eq fn85 rfl (by simp [Try.f85])).trans ?_
  simp (implicitDefEqProofs := false) only [go_sem, ↓reduceIte, Nat.reduceEqDiff, Nat.reduceAdd, Nat.reduceLeDiff, Nat.reduceBEq, Nat.reduceMul, Nat.reduceLT, Int.reduceLT, Int.reduceLE, Int.reduceToNat, Int.reduceNeg, Int.reduceEq, Int.reduceMul, reduceCtorEq, Int.reduceBEq, Int.reduceBNe, Int.reduceAdd, Int.reduceSub, get_lt hl, set_lt hl, h]

end Go.Ab
