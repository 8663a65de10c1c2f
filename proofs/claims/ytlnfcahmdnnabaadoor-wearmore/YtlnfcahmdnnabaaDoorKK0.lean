/-
  The tables of the evaluator are the program's: row by row.
-/
import Derived.Test.YtlnfcahmdnnabaaDoorT0
import Derived.Test.YtlnfcahmdnnabaaDoorD9
import Derived.Test.YtlnfcahmdnnabaaDoorE2
import Derived.ProofKit
import Derived.Carry
import Derived.WideShapes
import Derived.OpenShut
namespace Go.Ab
set_option linter.unusedSimpArgs false
set_option linter.unusedVariables false

theorem getAt_mem {α : Type} : ∀ {l : List (Nat × α)} {k : Nat} {y : α}, getAt l k = some y → (k, y) ∈ l
  | (i, x) :: r, k, y, h => by
    simp only [getAt] at h
    by_cases e : i = k
    · simp only [e, if_pos, Option.some.injEq] at h; subst e; subst h; exact List.mem_cons_self ..
    · rw [if_neg e] at h; exact List.mem_cons_of_mem _ (getAt_mem h)

theorem tyr1 : tyOf prog0 1 = getAt tyL 1 := by kernel_rfl
theorem tyr2 : tyOf prog0 2 = getAt tyL 2 := by kernel_rfl
theorem tyr3 : tyOf prog0 3 = getAt tyL 3 := by kernel_rfl
theorem tyr4 : tyOf prog0 4 = getAt tyL 4 := by kernel_rfl
theorem tyr5 : tyOf prog0 5 = getAt tyL 5 := by kernel_rfl
theorem tyr6 : tyOf prog0 6 = getAt tyL 6 := by kernel_rfl
theorem tyr8 : tyOf prog0 8 = getAt tyL 8 := by kernel_rfl
theorem tyr12 : tyOf prog0 12 = getAt tyL 12 := by kernel_rfl
theorem tyr15 : tyOf prog0 15 = getAt tyL 15 := by kernel_rfl
theorem tyr16 : tyOf prog0 16 = getAt tyL 16 := by kernel_rfl
theorem tyr17 : tyOf prog0 17 = getAt tyL 17 := by kernel_rfl
theorem tyr19 : tyOf prog0 19 = getAt tyL 19 := by kernel_rfl
theorem tyr20 : tyOf prog0 20 = getAt tyL 20 := by kernel_rfl
theorem tyr23 : tyOf prog0 23 = getAt tyL 23 := by kernel_rfl
theorem tyr24 : tyOf prog0 24 = getAt tyL 24 := by kernel_rfl
theorem tyr26 : tyOf prog0 26 = getAt tyL 26 := by kernel_rfl
theorem tyr28 : tyOf prog0 28 = getAt tyL 28 := by kernel_rfl
theorem tyr29 : tyOf prog0 29 = getAt tyL 29 := by kernel_rfl
theorem tyr38 : tyOf prog0 38 = getAt tyL 38 := by kernel_rfl
theorem tyr43 : tyOf prog0 43 = getAt tyL 43 := by kernel_rfl
theorem tyr44 : tyOf prog0 44 = getAt tyL 44 := by kernel_rfl
theorem tyr45 : tyOf prog0 45 = getAt tyL 45 := by kernel_rfl
theorem tyr50 : tyOf prog0 50 = getAt tyL 50 := by kernel_rfl
theorem tyr55 : tyOf prog0 55 = getAt tyL 55 := by kernel_rfl
theorem tyr61 : tyOf prog0 61 = getAt tyL 61 := by kernel_rfl
theorem tyr62 : tyOf prog0 62 = getAt tyL 62 := by kernel_rfl
theorem tyr64 : tyOf prog0 64 = getAt tyL 64 := by kernel_rfl
theorem tyr65 : tyOf prog0 65 = getAt tyL 65 := by kernel_rfl
theorem tyr66 : tyOf prog0 66 = getAt tyL 66 := by kernel_rfl
theorem tyr72 : tyOf prog0 72 = getAt tyL 72 := by kernel_rfl
theorem tyr74 : tyOf prog0 74 = getAt tyL 74 := by kernel_rfl
theorem tyr76 : tyOf prog0 76 = getAt tyL 76 := by kernel_rfl
theorem tyr77 : tyOf prog0 77 = getAt tyL 77 := by kernel_rfl
theorem tyr85 : tyOf prog0 85 = getAt tyL 85 := by kernel_rfl
theorem tyr88 : tyOf prog0 88 = getAt tyL 88 := by kernel_rfl
theorem tyr89 : tyOf prog0 89 = getAt tyL 89 := by kernel_rfl
theorem tyr91 : tyOf prog0 91 = getAt tyL 91 := by kernel_rfl
theorem tyr102 : tyOf prog0 102 = getAt tyL 102 := by kernel_rfl
theorem tyr106 : tyOf prog0 106 = getAt tyL 106 := by kernel_rfl
theorem tyr109 : tyOf prog0 109 = getAt tyL 109 := by kernel_rfl
theorem tyr111 : tyOf prog0 111 = getAt tyL 111 := by kernel_rfl
theorem tyr113 : tyOf prog0 113 = getAt tyL 113 := by kernel_rfl
theorem tyr116 : tyOf prog0 116 = getAt tyL 116 := by kernel_rfl
theorem tyr117 : tyOf prog0 117 = getAt tyL 117 := by kernel_rfl
theorem tyr121 : tyOf prog0 121 = getAt tyL 121 := by kernel_rfl
theorem tyr122 : tyOf prog0 122 = getAt tyL 122 := by kernel_rfl
theorem tyr125 : tyOf prog0 125 = getAt tyL 125 := by kernel_rfl
theorem tyr126 : tyOf prog0 126 = getAt tyL 126 := by kernel_rfl
theorem tyr127 : tyOf prog0 127 = getAt tyL 127 := by kernel_rfl
theorem tyr129 : tyOf prog0 129 = getAt tyL 129 := by kernel_rfl
theorem tyr133 : tyOf prog0 133 = getAt tyL 133 := by kernel_rfl
theorem tyr135 : tyOf prog0 135 = getAt tyL 135 := by kernel_rfl
theorem tyr137 : tyOf prog0 137 = getAt tyL 137 := by kernel_rfl
theorem tyr143 : tyOf prog0 143 = getAt tyL 143 := by kernel_rfl
theorem tyr145 : tyOf prog0 145 = getAt tyL 145 := by kernel_rfl
theorem tyr147 : tyOf prog0 147 = getAt tyL 147 := by kernel_rfl
theorem tyr156 : tyOf prog0 156 = getAt tyL 156 := by kernel_rfl

theorem ty_rows : ∀ k ∈ [1, 2, 3, 4, 5, 6, 8, 12, 15, 16, 17, 19, 20, 23, 24, 26, 28, 29, 38, 43, 44, 45, 50, 55, 61, 62, 64, 65, 66, 72, 74, 76, 77, 85, 88, 89, 91, 102, 106, 109, 111, 113, 116, 117, 121, 122, 125, 126, 127, 129, 133, 135, 137, 143, 145, 147, 156], tyOf prog0 k = getAt tyL k := by
  simp only [List.forall_mem_cons]
  exact ⟨tyr1, tyr2, tyr3, tyr4, tyr5, tyr6, tyr8, tyr12, tyr15, tyr16, tyr17, tyr19, tyr20, tyr23, tyr24, tyr26, tyr28, tyr29, tyr38, tyr43, tyr44, tyr45, tyr50, tyr55, tyr61, tyr62, tyr64, tyr65, tyr66, tyr72, tyr74, tyr76, tyr77, tyr85, tyr88, tyr89, tyr91, tyr102, tyr106, tyr109, tyr111, tyr113, tyr116, tyr117, tyr121, tyr122, tyr125, tyr126, tyr127, tyr129, tyr133, tyr135, tyr137, tyr143, tyr145, tyr147, tyr156, List.forall_mem_nil _⟩

theorem eqr2 : ∀ st ks, getAt eqL 2 = some (st, ks) → eqCells prog0 8 2 = some ks ∧ isStr prog0 2 = st ∧ prog0.eqGuardType prog0.depth 2 = false := fun _ _ h => by
  injection h with h; injection h with h1 h2; subst h1; subst h2
  exact ⟨by kernel_rfl, by kernel_rfl, by kernel_rfl⟩
theorem eqr3 : ∀ st ks, getAt eqL 3 = some (st, ks) → eqCells prog0 8 3 = some ks ∧ isStr prog0 3 = st ∧ prog0.eqGuardType prog0.depth 3 = false := fun _ _ h => by
  injection h with h; injection h with h1 h2; subst h1; subst h2
  exact ⟨by kernel_rfl, by kernel_rfl, by kernel_rfl⟩
theorem eqr4 : ∀ st ks, getAt eqL 4 = some (st, ks) → eqCells prog0 8 4 = some ks ∧ isStr prog0 4 = st ∧ prog0.eqGuardType prog0.depth 4 = false := fun _ _ h => by
  injection h with h; injection h with h1 h2; subst h1; subst h2
  exact ⟨by kernel_rfl, by kernel_rfl, by kernel_rfl⟩
theorem eqr5 : ∀ st ks, getAt eqL 5 = some (st, ks) → eqCells prog0 8 5 = some ks ∧ isStr prog0 5 = st ∧ prog0.eqGuardType prog0.depth 5 = false := fun _ _ h => by
  injection h with h; injection h with h1 h2; subst h1; subst h2
  exact ⟨by kernel_rfl, by kernel_rfl, by kernel_rfl⟩
theorem eqr6 : ∀ st ks, getAt eqL 6 = some (st, ks) → eqCells prog0 8 6 = some ks ∧ isStr prog0 6 = st ∧ prog0.eqGuardType prog0.depth 6 = false := fun _ _ h => by
  injection h with h; injection h with h1 h2; subst h1; subst h2
  exact ⟨by kernel_rfl, by kernel_rfl, by kernel_rfl⟩
theorem eqr8 : ∀ st ks, getAt eqL 8 = some (st, ks) → eqCells prog0 8 8 = some ks ∧ isStr prog0 8 = st ∧ prog0.eqGuardType prog0.depth 8 = false := fun _ _ h => by
  injection h with h; injection h with h1 h2; subst h1; subst h2
  exact ⟨by kernel_rfl, by kernel_rfl, by kernel_rfl⟩
theorem eqr12 : ∀ st ks, getAt eqL 12 = some (st, ks) → eqCells prog0 8 12 = some ks ∧ isStr prog0 12 = st ∧ prog0.eqGuardType prog0.depth 12 = false := fun _ _ h => by
  injection h with h; injection h with h1 h2; subst h1; subst h2
  exact ⟨by kernel_rfl, by kernel_rfl, by kernel_rfl⟩
theorem eqr23 : ∀ st ks, getAt eqL 23 = some (st, ks) → eqCells prog0 8 23 = some ks ∧ isStr prog0 23 = st ∧ prog0.eqGuardType prog0.depth 23 = false := fun _ _ h => by
  injection h with h; injection h with h1 h2; subst h1; subst h2
  exact ⟨by kernel_rfl, by kernel_rfl, by kernel_rfl⟩
theorem eqr29 : ∀ st ks, getAt eqL 29 = some (st, ks) → eqCells prog0 8 29 = some ks ∧ isStr prog0 29 = st ∧ prog0.eqGuardType prog0.depth 29 = false := fun _ _ h => by
  injection h with h; injection h with h1 h2; subst h1; subst h2
  exact ⟨by kernel_rfl, by kernel_rfl, by kernel_rfl⟩
theorem eqr44 : ∀ st ks, getAt eqL 44 = some (st, ks) → eqCells prog0 8 44 = some ks ∧ isStr prog0 44 = st ∧ prog0.eqGuardType prog0.depth 44 = false := fun _ _ h => by
  injection h with h; injection h with h1 h2; subst h1; subst h2
  exact ⟨by kernel_rfl, by kernel_rfl, by kernel_rfl⟩
theorem eqr55 : ∀ st ks, getAt eqL 55 = some (st, ks) → eqCells prog0 8 55 = some ks ∧ isStr prog0 55 = st ∧ prog0.eqGuardType prog0.depth 55 = false := fun _ _ h => by
  injection h with h; injection h with h1 h2; subst h1; subst h2
  exact ⟨by kernel_rfl, by kernel_rfl, by kernel_rfl⟩
theorem eqr74 : ∀ st ks, getAt eqL 74 = some (st, ks) → eqCells prog0 8 74 = some ks ∧ isStr prog0 74 = st ∧ prog0.eqGuardType prog0.depth 74 = false := fun _ _ h => by
  injection h with h; injection h with h1 h2; subst h1; subst h2
  exact ⟨by kernel_rfl, by kernel_rfl, by kernel_rfl⟩
theorem eqr76 : ∀ st ks, getAt eqL 76 = some (st, ks) → eqCells prog0 8 76 = some ks ∧ isStr prog0 76 = st ∧ prog0.eqGuardType prog0.depth 76 = false := fun _ _ h => by
  injection h with h; injection h with h1 h2; subst h1; subst h2
  exact ⟨by kernel_rfl, by kernel_rfl, by kernel_rfl⟩
theorem eqr85 : ∀ st ks, getAt eqL 85 = some (st, ks) → eqCells prog0 8 85 = some ks ∧ isStr prog0 85 = st ∧ prog0.eqGuardType prog0.depth 85 = false := fun _ _ h => by
  injection h with h; injection h with h1 h2; subst h1; subst h2
  exact ⟨by kernel_rfl, by kernel_rfl, by kernel_rfl⟩
theorem eqr88 : ∀ st ks, getAt eqL 88 = some (st, ks) → eqCells prog0 8 88 = some ks ∧ isStr prog0 88 = st ∧ prog0.eqGuardType prog0.depth 88 = false := fun _ _ h => by
  injection h with h; injection h with h1 h2; subst h1; subst h2
  exact ⟨by kernel_rfl, by kernel_rfl, by kernel_rfl⟩
theorem eqr117 : ∀ st ks, getAt eqL 117 = some (st, ks) → eqCells prog0 8 117 = some ks ∧ isStr prog0 117 = st ∧ prog0.eqGuardType prog0.depth 117 = false := fun _ _ h => by
  injection h with h; injection h with h1 h2; subst h1; subst h2
  exact ⟨by kernel_rfl, by kernel_rfl, by kernel_rfl⟩
theorem eqr133 : ∀ st ks, getAt eqL 133 = some (st, ks) → eqCells prog0 8 133 = some ks ∧ isStr prog0 133 = st ∧ prog0.eqGuardType prog0.depth 133 = false := fun _ _ h => by
  injection h with h; injection h with h1 h2; subst h1; subst h2
  exact ⟨by kernel_rfl, by kernel_rfl, by kernel_rfl⟩
theorem eqr135 : ∀ st ks, getAt eqL 135 = some (st, ks) → eqCells prog0 8 135 = some ks ∧ isStr prog0 135 = st ∧ prog0.eqGuardType prog0.depth 135 = false := fun _ _ h => by
  injection h with h; injection h with h1 h2; subst h1; subst h2
  exact ⟨by kernel_rfl, by kernel_rfl, by kernel_rfl⟩
theorem eqr143 : ∀ st ks, getAt eqL 143 = some (st, ks) → eqCells prog0 8 143 = some ks ∧ isStr prog0 143 = st ∧ prog0.eqGuardType prog0.depth 143 = false := fun _ _ h => by
  injection h with h; injection h with h1 h2; subst h1; subst h2
  exact ⟨by kernel_rfl, by kernel_rfl, by kernel_rfl⟩
theorem eqr145 : ∀ st ks, getAt eqL 145 = some (st, ks) → eqCells prog0 8 145 = some ks ∧ isStr prog0 145 = st ∧ prog0.eqGuardType prog0.depth 145 = false := fun _ _ h => by
  injection h with h; injection h with h1 h2; subst h1; subst h2
  exact ⟨by kernel_rfl, by kernel_rfl, by kernel_rfl⟩
theorem eqr147 : ∀ st ks, getAt eqL 147 = some (st, ks) → eqCells prog0 8 147 = some ks ∧ isStr prog0 147 = st ∧ prog0.eqGuardType prog0.depth 147 = false := fun _ _ h => by
  injection h with h; injection h with h1 h2; subst h1; subst h2
  exact ⟨by kernel_rfl, by kernel_rfl, by kernel_rfl⟩
theorem eqr156 : ∀ st ks, getAt eqL 156 = some (st, ks) → eqCells prog0 8 156 = some ks ∧ isStr prog0 156 = st ∧ prog0.eqGuardType prog0.depth 156 = false := fun _ _ h => by
  injection h with h; injection h with h1 h2; subst h1; subst h2
  exact ⟨by kernel_rfl, by kernel_rfl, by kernel_rfl⟩

theorem eq_rows : ∀ k ∈ [2, 3, 4, 5, 6, 8, 12, 23, 29, 44, 55, 74, 76, 85, 88, 117, 133, 135, 143, 145, 147, 156], ∀ st ks, getAt eqL k = some (st, ks) → eqCells prog0 8 k = some ks ∧ isStr prog0 k = st ∧ prog0.eqGuardType prog0.depth k = false := by
  simp only [List.forall_mem_cons]
  exact ⟨eqr2, eqr3, eqr4, eqr5, eqr6, eqr8, eqr12, eqr23, eqr29, eqr44, eqr55, eqr74, eqr76, eqr85, eqr88, eqr117, eqr133, eqr135, eqr143, eqr145, eqr147, eqr156, List.forall_mem_nil _⟩

set_option maxRecDepth 100000 in
theorem fn_rows : ∀ x ∈ fnL, prog0.funcs[x.1]? = some x.2 := by
  simp only [fnL, List.forall_mem_cons]
  exact ⟨Go.Proofs.Tryd.func0, Go.Proofs.Tryd.func1, Go.Proofs.Tryd.func2, Go.Proofs.Tryd.func3, Go.Proofs.Tryd.func4, Go.Proofs.Tryd.func5, Go.Proofs.Tryd.func6, Go.Proofs.Tryd.func7, Go.Proofs.Tryd.func8, Go.Proofs.Tryd.func9, Go.Proofs.Tryd.func10, Go.Proofs.Tryd.func11, Go.Proofs.Tryd.func12, Go.Proofs.Tryd.func13, Go.Proofs.Tryd.func14, Go.Proofs.Tryd.func15, Go.Proofs.Tryd.func16, Go.Proofs.Tryd.func17, Go.Proofs.Tryd.func18, Go.Proofs.Tryd.func19, Go.Proofs.Tryd.func20, Go.Proofs.Tryd.func21, Go.Proofs.Tryd.func22, Go.Proofs.Tryd.func23, Go.Proofs.Tryd.func24, Go.Proofs.Tryd.func25, Go.Proofs.Tryd.func26, Go.Proofs.Tryd.func27, Go.Proofs.Tryd.func28, Go.Proofs.Tryd.func29, Go.Proofs.Tryd.func30, Go.Proofs.Tryd.func31, Go.Proofs.Tryd.func32, Go.Proofs.Tryd.func33, Go.Proofs.Tryd.func34, Go.Proofs.Tryd.func35, Go.Proofs.Tryd.func36, Go.Proofs.Tryd.func37, Go.Proofs.Tryd.func38, Go.Proofs.Tryd.func39, Go.Proofs.Tryd.func40, Go.Proofs.Tryd.func41, Go.Proofs.Tryd.func42, Go.Proofs.Tryd.func43, Go.Proofs.Tryd.func44, Go.Proofs.Tryd.func45, Go.Proofs.Tryd.func46, Go.Proofs.Tryd.func47, Go.Proofs.Tryd.func48, Go.Proofs.Tryd.func49, Go.Proofs.Tryd.func50, Go.Proofs.Tryd.func51, Go.Proofs.Tryd.func52, Go.Proofs.Tryd.func53, Go.Proofs.Tryd.func54, Go.Proofs.Tryd.func55, Go.Proofs.Tryd.func56, Go.Proofs.Tryd.func57, Go.Proofs.Tryd.func58, Go.Proofs.Tryd.func59, Go.Proofs.Tryd.func60, Go.Proofs.Tryd.func61, Go.Proofs.Tryd.func62, Go.Proofs.Tryd.func63, Go.Proofs.Tryd.func64, Go.Proofs.Tryd.func65, Go.Proofs.Tryd.func66, Go.Proofs.Tryd.func67, Go.Proofs.Tryd.func68, Go.Proofs.Tryd.func69, Go.Proofs.Tryd.func70, Go.Proofs.Tryd.func71, Go.Proofs.Tryd.func72, Go.Proofs.Tryd.func73, Go.Proofs.Tryd.func74, Go.Proofs.Tryd.func75, Go.Proofs.Tryd.func76, Go.Proofs.Tryd.func77, Go.Proofs.Tryd.func78, Go.Proofs.Tryd.func79, Go.Proofs.Tryd.func80, Go.Proofs.Tryd.func81, Go.Proofs.Tryd.func82, Go.Proofs.Tryd.func83, Go.Proofs.Tryd.func84, Go.Proofs.Tryd.func85, Go.Proofs.Tryd.func86, Go.Proofs.Tryd.func87, Go.Proofs.Tryd.func88, Go.Proofs.Tryd.func89, Go.Proofs.Tryd.func90, Go.Proofs.Tryd.func91, Go.Proofs.Tryd.func92, Go.Proofs.Tryd.func93, Go.Proofs.Tryd.func94, Go.Proofs.Tryd.func95, Go.Proofs.Tryd.func96, Go.Proofs.Tryd.func97, Go.Proofs.Tryd.func98, Go.Proofs.Tryd.func99, Go.Proofs.Tryd.func100, Go.Proofs.Tryd.func101, Go.Proofs.Tryd.func102, Go.Proofs.Tryd.func103, Go.Proofs.Tryd.func104, Go.Proofs.Tryd.func105, Go.Proofs.Tryd.func106, Go.Proofs.Tryd.func107, Go.Proofs.Tryd.func108, Go.Proofs.Tryd.func109, Go.Proofs.Tryd.func110, Go.Proofs.Tryd.func111, Go.Proofs.Tryd.func112, Go.Proofs.Tryd.func113, Go.Proofs.Tryd.func114, Go.Proofs.Tryd.func115, Go.Proofs.Tryd.func116, Go.Proofs.Tryd.func117, Go.Proofs.Tryd.func118, Go.Proofs.Tryd.func119, Go.Proofs.Tryd.func120, Go.Proofs.Tryd.func121, Go.Proofs.Tryd.func122, Go.Proofs.Tryd.func123, Go.Proofs.Tryd.func124, List.forall_mem_nil _⟩

theorem meth_rows : (methL.all fun r => r.2.all fun p => methodOf prog0 r.1 p.1 == some p.2) = true := by kernel_rfl

theorem name_rows : (fnL.all fun x => x.2.name != "runtime.NumGoroutine") = true := by kernel_rfl

theorem code_rows : (fnL.all fun x => match x.2.body with
  | some b => codeOk x.2.ntmps b
  | none => true) = true := by kernel_rfl

theorem field_rows : (tyL.all fun x => match x.2.d with
  | .struct fs => fs.all fun p => (getAt tyL p.2).isSome
  | _ => true) = true := by kernel_rfl

theorem keys_ty : tyL.map (·.1) = [1, 2, 3, 4, 5, 6, 8, 12, 15, 16, 17, 19, 20, 23, 24, 26, 28, 29, 38, 43, 44, 45, 50, 55, 61, 62, 64, 65, 66, 72, 74, 76, 77, 85, 88, 89, 91, 102, 106, 109, 111, 113, 116, 117, 121, 122, 125, 126, 127, 129, 133, 135, 137, 143, 145, 147, 156] := rfl
theorem keys_eq : eqL.map (·.1) = [2, 3, 4, 5, 6, 8, 12, 23, 29, 44, 55, 74, 76, 85, 88, 117, 133, 135, 143, 145, 147, 156] := rfl

theorem ok0 : Ok cfg0 prog0 where
  ty t y h := by
    have h' : getAt tyL t = some y := h
    rw [ty_rows t (keys_ty ▸ List.mem_map.2 ⟨_, getAt_mem h', rfl⟩)]; exact h'
  eq t st ks h := by
    have h' : getAt eqL t = some (st, ks) := h
    exact eq_rows t (keys_eq ▸ List.mem_map.2 ⟨_, getAt_mem h', rfl⟩) st ks h'
  meth t n g h := by
    have h' : methT t n = some g := h
    unfold methT at h'
    cases e : getAt methL t with
    | none => rw [e] at h'; exact absurd h' (by simp)
    | some r =>
      rw [e] at h'
      have hm := getAt_mem e
      have ha := List.all_eq_true.1 meth_rows _ hm
      simp only [Option.map_eq_some_iff] at h'
      obtain ⟨p, hp, rfl⟩ := h'
      have h1 := List.find?_some hp
      have h2 := List.mem_of_find?_eq_some hp
      have h3 := List.all_eq_true.1 ha _ h2
      have e1 : p.1 = n := by simpa using h1
      subst e1
      simpa using h3
  glob g v h := by
    have h' : getAt globL g = some v := h
    exact getAt_mem h'
  fns g fn h := by
    have h' : getAt fnL g = some fn := h
    have hm := getAt_mem h'
    have hf := fn_rows (g, fn) hm
    refine ⟨hf, ?_, ?_⟩
    · have := List.all_eq_true.1 name_rows _ hm
      simpa using this
    · intro b hb
      have := List.all_eq_true.1 code_rows _ hm
      simpa only [hb] using this
  fields t y fs h hd x hx := by
    have h' : getAt tyL t = some y := h
    have := List.all_eq_true.1 field_rows _ (getAt_mem h')
    simp only [hd] at this
    exact Option.isSome_iff_exists.1 (List.all_eq_true.1 this _ hx)

end Go.Ab
/-
  The frame that every law of this kind shares: what was there is as it was, and more has been made.
-/
namespace Go.Ab
set_option linter.unusedSimpArgs false
set_option linter.unusedVariables false
open Go.ChangeShapes Go.RowKit

/-- A law, by the evaluator's limit. -/
theorem law_calls {C : Cfg} {P : Program} (ok : Ok C P) {f : FuncId} {args : List AV} {vals : List Value} {W : World} {H : Heap} {p : Option (AV × Bool)} (h : callFL C P false f args [] none = some ⟨.ret (.bool true), H, p⟩)
    (hg : GlobOk (Cx.start W)) (hr : RelL (Cx.start W) args vals) : Calls P f vals.toArray W fun e w' => e = .returned (.bool true) ∧ Below W.heap.size W w' := by
  obtain ⟨n, hn⟩ := lim_ex h
  exact calls_true ok hn rfl hg hr

theorem post_below {P : Program} {T : Type} {enc : TypeId × Value → T} {f : Func} {s : ChangeSpec} {apart fresh handsOn again : Bool} {W W' : World} {args : Array Value} {v : Value} {ds gs : List (DataW T)} {before pa pv : List MemPlace}
    (hW : DataW.Whole enc P f.params.toList s.vars apart W args.toList ds gs before)
    (hres : ∀ (b : Nat) (sp : Nat → Bool) (hd : Bool), DataW.TrodAll enc P W' b sp hd f.resultTypes.toList (v.resultList f.resultTypes.size) (s.fn T (ds ++ gs)).results [])
    (hargs : ∀ sp : Nat → Bool, (∀ p ∈ before, sp p.block = true) → DataW.TrodAll enc P W' 0 sp true f.params.toList args.toList (s.fn T (ds ++ gs)).args pa)
    (hvars : ∀ sp : Nat → Bool, (∀ p ∈ before, sp p.block = true) → DataW.TrodVars enc P W' sp s.vars (s.fn T (ds ++ gs)).vars pv)
    (hps : before = pa ++ pv) (hb : Below W.heap.size W W')
    (hok : ∀ (j : Nat) (t : TypeId) (r : Value), f.resultTypes[j]? = some t → (v.resultList f.resultTypes.size)[j]? = some r → Value.okWide P W' .any 0 t r) :
    s.post enc P f apart fresh handsOn again W args v W' := by
  have hold : ∀ p ∈ before, (fun b => decide (b < W.heap.size)) p.block = true := fun p hp => by simpa using hW.lt p hp
  have hlt : ∀ p ∈ before, p.block < W.heap.size := hW.lt
  refine ⟨ds, gs, before, [], pa, pv, hW, hres _ _ _, hargs _ hold, hvars _ hold, World.keptBut_mono (fun p hp => ⟨hp, ?_⟩) (hb.frame (fun p => p ∈ before)), fun _ => ?_⟩
  · rw [hps, List.mem_append] at hp
    exact Or.inr hp
  · obtain ⟨_, _, _, _, _, hz, hn⟩ := hW
    refine ⟨hok, _, _, ([] ++ pa) ++ pv, ⟨[] ++ pa, pv, trodAll_append (hargs _ (fun _ _ => rfl)) (hres _ _ _), hvars _ (fun _ _ => rfl), rfl, ?_, ?_⟩, ?_⟩
    · intro b off hp
      have hm : MemPlace.cell b off ∈ before := by rw [hps]; simpa using hp
      rw [hb.frozen (p := ⟨b, off, none⟩) (hlt _ hm)]
      exact hz b off hm
    · intro ha
      have := hn ha
      rw [hps] at this
      simpa using this
    · intro p hp _
      rw [hps]
      simpa using hp

end Go.Ab
/-
  From arguments that can be read as data to what the evaluator takes: integers, bools, structs and slices of such.
-/
namespace Go.Ab
set_option linter.unusedSimpArgs false
set_option linter.unusedVariables false
open Go.ChangeShapes Go.RowKit Go.WideShapes

/-- The shape of plain data. -/
inductive Sh where
  | int (k : IntKind)
  | bool
  | sl (agg : Bool) (e : Sh)
  | unit
  | cons (a r : Sh)

def aggTy (P : Program) (t : TypeId) : Bool :=
  match P.underlying t with
  | some (.struct _) => true
  | some (.array _ _) => true
  | _ => false

def shFields (P : Program) (rec : TypeId → Option Sh) (tot : Nat) : List Field → Nat → Option Sh
  | [], off => if off = tot then some .unit else none
  | f :: r, off =>
    if f.offset = off then
      match rec f.type, shFields P rec tot r (off + P.cellsOf f.type) with
      | some a, some b => some (.cons a b)
      | _, _ => none
    else none

def shRep : Nat → Sh → Sh
  | 0, _ => .unit
  | n + 1, s => .cons s (shRep n s)

def shOf (P : Program) : Nat → TypeId → Option Sh
  | 0, _ => none
  | n + 1, t =>
    match P.underlying t with
    | some (.int k) => some (.int k)
    | some .bool => some .bool
    | some (.slice e) => if 0 < P.cellsOf e then (shOf P n e).map (.sl (aggTy P e)) else none
    | some (.struct fs) => shFields P (shOf P n) (P.cellsOf t) fs.toList 0
    | some (.array k e) => if P.cellsOf t = k * P.cellsOf e then (shOf P n e).map (shRep k) else none
    | _ => none

def pack (agg : Bool) (cs : List AV) : AV := if agg then .agg cs else cs.headD .undef

def Shaped : Sh → List AV → Prop
  | .int k, l => ∃ n, l = [.int k n] ∧ (Lit.int k n).wf = true
  | .bool, l => ∃ b, l = [.bool b]
  | .sl agg e, l => ∃ f es, l = [.sl f es] ∧ ∀ x ∈ es, ∃ cs, Shaped e cs ∧ x = pack agg cs
  | .unit, l => l = []
  | .cons a r, l => ∃ x y, l = x ++ y ∧ Shaped a x ∧ Shaped r y

theorem rel_sl {c : Cx} {f : Bool} {es : List AV} {v : Value} : Rel c (.sl f es) v = (∃ a cap, v = .slice a es.length cap ∧ ((f = true → cap = es.length) ∧ es.length ≤ cap) ∧ (ltL 0 es = true ∧ ∀ x ∈ es, known x = true) ∧
      (es = [] ∨ ∃ b o sz ys, a = some ⟨b, o, none⟩ ∧ b < c.w.heap.size ∧ ¬ c.owned b ∧ RelL c es ys ∧ (∀ y ∈ ys, y.cells.size = sz) ∧ Lies c.w b o (flat ys))) := by
  rw [Rel]

theorem relL_one {c : Cx} {v : AV} {y : Value} (h : Rel c v y) : RelL c [v] [y] := by
  simp only [RelL]
  exact ⟨y, [], rfl, h, rfl⟩

/-- What is told of cells that have been read. -/
structure ReadOk (W : World) (sh : Sh) (cs : List Value) (avs : List AV) : Prop where
  rel : RelL (Cx.start W) avs cs
  shp : Shaped sh avs
  lt : ltL 0 avs = true
  sca : allScalar avs = true

theorem shFields_le {P : Program} {rec : TypeId → Option Sh} {tot : Nat} : ∀ (fs : List Field) (off : Nat) (sh : Sh), shFields P rec tot fs off = some sh → off ≤ tot
  | [], off, sh, h => by
    simp only [shFields] at h
    split at h
    · omega
    · cases h
  | f :: r, off, sh, h => by
    simp only [shFields] at h
    split at h
    · split at h
      · rename_i hb
        have := shFields_le r _ _ hb
        omega
      · cases h
    · cases h

section
variable {H : Type} {enc : TypeId × Value → H} {P : Program} {W : World}

theorem fields_read {rec : TypeId → Option Sh} {tot n : Nat} {cs : List Value} (hl : cs.length = tot)
    (ih : ∀ t sh, rec t = some sh → ∀ cs x, DataW.trod enc P W 0 (fun _ => true) true n t cs = some x → ∃ avs, ReadOk W sh cs avs) :
    ∀ (fs : List Field) (off : Nat) (sh : Sh), shFields P rec tot fs off = some sh →
      (∀ f ∈ fs, ∃ x, DataW.trod enc P W 0 (fun _ => true) true n f.type ((cs.drop f.offset).take (P.cellsOf f.type)) = some x) → ∃ avs, ReadOk W sh (cs.drop off) avs
  | [], off, sh, h, _ => by
    simp only [shFields] at h
    split at h
    · rename_i e
      injection h with h
      subst h
      exact ⟨[], by rw [List.drop_eq_nil_of_le (by omega)]; simp only [RelL], rfl, rfl, rfl⟩
    · cases h
  | f :: r, off, sh, h, hf => by
    simp only [shFields] at h
    split at h
    · rename_i e
      split at h
      · rename_i a b ha hb
        injection h with h
        subst h
        obtain ⟨x, hx⟩ := hf f (List.mem_cons_self ..)
        rw [e] at hx
        obtain ⟨avs, h1⟩ := ih f.type a ha _ x hx
        obtain ⟨bvs, h2⟩ := fields_read hl ih r _ b hb fun g hg => hf g (List.mem_cons_of_mem _ hg)
        refine ⟨avs ++ bvs, ?_, ⟨avs, bvs, rfl, h1.shp, h2.shp⟩, by rw [ltL_append, h1.lt, h2.lt]; rfl, by rw [allScalar_append, h1.sca, h2.sca]; rfl⟩
        have : cs.drop off = (cs.drop off).take (P.cellsOf f.type) ++ cs.drop (off + P.cellsOf f.type) := by
          rw [← List.drop_drop, List.take_append_drop]
        rw [this]
        exact RelL.append h1.rel h2.rel
      · cases h
    · cases h

theorem array_read {k sz : Nat} {e : TypeId} {she : Sh} {n : Nat} {cs : List Value} (hsz : P.cellsOf e = sz) (hl : cs.length = k * sz)
    (ih : ∀ cs x, DataW.trod enc P W 0 (fun _ => true) true n e cs = some x → ∃ avs, ReadOk W she cs avs)
    (hall : ∀ i, i < k → ∃ x, DataW.trod enc P W 0 (fun _ => true) true n e ((cs.drop (i * sz)).take sz) = some x) : ∀ j, j ≤ k → ∃ avs, ReadOk W (shRep j she) (cs.drop ((k - j) * sz)) avs
  | 0, _ => ⟨[], by rw [List.drop_eq_nil_of_le (by rw [hl]; exact Nat.le_refl _)]; simp only [RelL], rfl, rfl, rfl⟩
  | j + 1, hj => by
    obtain ⟨bvs, h2⟩ := array_read hsz hl ih hall j (by omega)
    obtain ⟨x, hx⟩ := hall (k - (j + 1)) (by omega)
    obtain ⟨avs, h1⟩ := ih _ _ hx
    refine ⟨avs ++ bvs, ?_, ⟨avs, bvs, rfl, h1.shp, h2.shp⟩, by rw [ltL_append, h1.lt, h2.lt]; rfl, by rw [allScalar_append, h1.sca, h2.sca]; rfl⟩
    have e1 : (k - j) * sz = (k - (j + 1)) * sz + sz := by
      rw [show k - j = (k - (j + 1)) + 1 by omega, Nat.add_mul, Nat.one_mul]
    have : cs.drop ((k - (j + 1)) * sz) = (cs.drop ((k - (j + 1)) * sz)).take sz ++ cs.drop ((k - j) * sz) := by
      rw [e1, ← List.drop_drop, List.take_append_drop]
    rw [this]
    exact RelL.append h1.rel h2.rel

theorem cells_single {y : Value} (h : ∀ cs, y ≠ .agg cs) : y.cells = #[y] := by
  cases y <;> first | rfl | exact absurd rfl (h _)

theorem elems_read {n sz : Nat} {e : TypeId} {sh : Sh} {agg : Bool} {b o : Nat} (hsz : P.cellsOf e = sz) (hpos : 0 < sz)
    (ih : ∀ cs x, DataW.trod enc P W 0 (fun _ => true) true n e cs = some x → ∃ avs, ReadOk W sh cs avs ∧ (agg = false → ∃ y, cs = [y] ∧ ∀ z, y ≠ .agg z)) {len : Nat}
    (hel : ∀ i, i < len → ∃ x, (W.cells? 0 (Addr.add ⟨b, o, none⟩ (i * sz)) sz).bind (DataW.trod enc P W 0 (fun _ => true) true n e) = some x) :
    ∀ j, j ≤ len → ∃ es ys, es.length = j ∧ RelL (Cx.start W) es ys ∧ (∀ y ∈ ys, y.cells.size = sz) ∧ Lies W b o (flat ys) ∧ ltL 0 es = true ∧ ∀ x ∈ es, known x = true ∧ ∃ cs, Shaped sh cs ∧ x = pack agg cs
  | 0, _ => ⟨[], [], rfl, by simp only [RelL], by simp, by intro k hk; simp [flat] at hk, rfl, by simp⟩
  | j + 1, hj => by
    obtain ⟨es, ys, h1, h2, h3, h4, h5, h6⟩ := elems_read hsz hpos ih hel j (by omega)
    obtain ⟨x, hx⟩ := hel j (by omega)
    rw [Option.bind_eq_some_iff] at hx
    obtain ⟨cs, hc, ht⟩ := hx
    obtain ⟨-, hcl, hcc⟩ := World.cells?_some hc
    obtain ⟨avs, hr, hs⟩ := ih cs x ht
    have hyl : ys.length = j := by rw [← h2.length, h1]
    have hfl : (flat ys).length = j * sz := by rw [flat_length h3, hyl]
    have hav : avs.length = sz := by rw [hr.rel.length, hcl]
    have key : ∃ z : Value, z.cells.toList = cs ∧ Rel (Cx.start W) (pack agg avs) z ∧ known (pack agg avs) = true ∧ (pack agg avs).lt 0 = true := by
      cases agg with
      | true =>
        refine ⟨.agg cs.toArray, by simp [Value.cells], ?_, ?_, ?_⟩
        · simp only [pack, if_true, Rel]
          exact ⟨cs.toArray, rfl, hr.rel⟩
        · simp only [pack, if_true, known, AV.cells, hr.sca]
        · simp only [pack, if_true, AV.lt, hr.lt]
      | false =>
        obtain ⟨y, rfl, hy⟩ := hs rfl
        have := hr.rel
        cases avs with
        | nil => simp at hcl hav; omega
        | cons a r =>
          simp only [RelL] at this
          obtain ⟨y', s', he, hra, hrr⟩ := this
          simp only [List.cons.injEq] at he
          obtain ⟨rfl, rfl⟩ := he
          have hs2 := hr.sca
          have hl2 := hr.lt
          simp only [allScalar, Bool.and_eq_true] at hs2
          simp only [ltL, Bool.and_eq_true] at hl2
          refine ⟨y, by rw [cells_single hy], by simpa only [pack, Bool.false_eq_true, if_false, List.headD_cons] using hra, ?_, by simpa only [pack, Bool.false_eq_true, if_false, List.headD_cons] using hl2.1⟩
          simp only [pack, Bool.false_eq_true, if_false, List.headD_cons, known]
          have : a.cells = [a] := by
            have := hs2.1
            cases a <;> simp only [AV.scalar] at this <;> first | rfl | cases this
          rw [this]; simp only [allScalar, hs2.1, Bool.and_self]
    obtain ⟨z, hz1, hz2, hz3, hz4⟩ := key
    refine ⟨es ++ [pack agg avs], ys ++ [z], by simp [h1], RelL.append h2 (by simp only [RelL]; exact ⟨z, [], rfl, hz2, rfl⟩), ?_, ?_, by rw [ltL_append, h5]; simp only [ltL, hz4, Bool.and_self], ?_⟩
    · intro y hy
      rcases List.mem_append.1 hy with hy | hy
      · exact h3 y hy
      · rw [List.mem_singleton] at hy
        subst hy
        rw [← Array.length_toList, hz1, hcl]
    · intro k hk
      rw [flat_append] at hk ⊢
      have hfz : flat [z] = cs := by simp [flat, hz1]
      rw [hfz] at hk ⊢
      rw [List.length_append, hfl, hcl] at hk
      rcases Nat.lt_or_ge k (j * sz) with hlt | hge
      · rw [List.getElem?_append_left (by omega)]
        exact h4 k (by omega)
      · rw [List.getElem?_append_right (by omega), hfl]
        have := hcc (k - j * sz) (by omega)
        rw [add_plain, add_plain] at this
        rw [← this]
        congr 2
        omega
    · intro x' hx'
      rcases List.mem_append.1 hx' with hx' | hx'
      · exact h6 x' hx'
      · rw [List.mem_singleton] at hx'
        subst hx'
        exact ⟨hz3, avs, hr.shp, rfl⟩

theorem aggTy_false {e : TypeId} (h : aggTy P e = false) {n : Nat} {sh : Sh} (hsh : shOf P n e = some sh) {m : Nat} {cs : List Value} {x : DataW H × List MemPlace} (ht : DataW.trod enc P W 0 (fun _ => true) true m e cs = some x) : ∃ y, cs = [y] ∧ ∀ z, y ≠ .agg z := by
  cases n with
  | zero => simp [shOf] at hsh
  | succ n =>
    simp only [shOf] at hsh
    split at hsh
    · rename_i hu
      obtain ⟨k, rfl, -, -⟩ := DataW.trod_int hu ht
      exact ⟨_, rfl, fun z hz => by cases hz⟩
    · rename_i hu
      obtain ⟨k, rfl, -⟩ := DataW.trod_bool hu ht
      exact ⟨_, rfl, fun z hz => by cases hz⟩
    · rename_i hu
      rcases DataW.trod_slice hu ht with ⟨rfl, -⟩ | ⟨a, len, cap, _, _, _, _, rfl, _⟩
      · exact ⟨_, rfl, fun z hz => by cases hz⟩
      · exact ⟨_, rfl, fun z hz => by cases hz⟩
    · rename_i hu
      simp [aggTy, hu] at h
    · rename_i hu
      simp [aggTy, hu] at h
    · cases hsh

theorem reads : ∀ (n : Nat) (t : TypeId) (sh : Sh), shOf P n t = some sh → ∀ (m : Nat) (cs : List Value) (x : DataW H × List MemPlace), DataW.trod enc P W 0 (fun _ => true) true m t cs = some x → ∃ avs, ReadOk W sh cs avs
  | 0, t, sh, h, _, _, _, _ => by simp [shOf] at h
  | n + 1, t, sh, h, m, cs, x, hx => by
    simp only [shOf] at h
    split at h
    · rename_i k hu
      injection h with h; subst h
      obtain ⟨z, rfl, -, hw⟩ := DataW.trod_int hu hx
      exact ⟨[.int k z], by simp only [RelL, Rel]; exact ⟨_, [], rfl, rfl, rfl⟩, ⟨z, rfl, hw⟩, rfl, rfl⟩
    · rename_i hu
      injection h with h; subst h
      obtain ⟨z, rfl, -⟩ := DataW.trod_bool hu hx
      exact ⟨[.bool z], by simp only [RelL, Rel]; exact ⟨_, [], rfl, rfl, rfl⟩, ⟨z, rfl⟩, rfl, rfl⟩
    · rename_i e hu
      split at h
      · rename_i hpos
        rw [Option.map_eq_some_iff] at h
        obtain ⟨she, he, rfl⟩ := h
        rcases DataW.trod_slice hu hx with ⟨rfl, -⟩ | ⟨a, len, cap, elems, rest, m', hm, rfl, -, -, hle, hcap, hel, hall, -, -⟩
        · refine ⟨[.sl true []], relL_one (by rw [rel_sl]; exact ⟨none, 0, rfl, ⟨fun _ => rfl, Nat.le_refl _⟩, ⟨rfl, by simp⟩, .inl rfl⟩), ⟨true, [], rfl, by simp⟩, rfl, rfl⟩
        · rcases Nat.eq_zero_or_pos len with h0 | h0
          · subst h0
            refine ⟨[.sl false []], relL_one (by rw [rel_sl]; exact ⟨some a, cap, rfl, ⟨fun h => by simp at h, Nat.zero_le _⟩, ⟨rfl, by simp⟩, .inl rfl⟩), ⟨false, [], rfl, by simp⟩, rfl, rfl⟩
          · obtain ⟨b, o, spot⟩ := a
            have hel' : ∀ i, i < len → ∃ x, (W.cells? 0 (Addr.add ⟨b, o, spot⟩ (i * P.cellsOf e)) (P.cellsOf e)).bind (DataW.trod enc P W 0 (fun _ => true) true m' e) = some x := by
              intro i hi
              rw [hall i hi]
              exact ⟨elems[i]'(by omega), List.getElem?_eq_getElem (by omega)⟩
            have hb0 : b < W.heap.size ∧ spot = none := by
              obtain ⟨y, hy⟩ := hel' 0 h0
              rw [Option.bind_eq_some_iff] at hy
              obtain ⟨c0, hc0, -⟩ := hy
              obtain ⟨-, hl0, hg0⟩ := World.cells?_some hc0
              have g := hg0 0 hpos
              rw [List.getElem?_eq_getElem (by omega)] at g
              have hsp : spot = none := by simpa [Addr.add] using World.cell?_spot g
              subst hsp
              refine ⟨?_, rfl⟩
              rw [add_plain, add_plain] at g
              simp only [World.cell?] at g
              refine Nat.lt_of_not_le fun hle => ?_
              have : W.heap[b]? = none := by simp [hle]
              simp [this] at g
            obtain ⟨hb, rfl⟩ := hb0
            obtain ⟨es, ys, h1, h2, h3, h4, h5, h6⟩ := elems_read (sh := she) (agg := aggTy P e) rfl hpos (fun cs x hx => by
              obtain ⟨avs, ha⟩ := reads n e she he m' cs x hx
              exact ⟨avs, ha, fun hf => aggTy_false hf he hx⟩) hel' len (Nat.le_refl _)
            refine ⟨[.sl false es], ?_, ⟨false, es, rfl, fun x hx => (h6 x hx).2⟩, rfl, rfl⟩
            refine relL_one ?_
            rw [rel_sl]
            refine ⟨some ⟨b, o, none⟩, cap, by rw [h1], ⟨fun h => by simp at h, by omega⟩, ⟨h5, fun x hx => (h6 x hx).1⟩, .inr ⟨b, o, P.cellsOf e, ys, rfl, hb, ?_, h2, h3, h4⟩⟩
            rintro ⟨l, hl⟩
            cases hl
      · cases h
    · rename_i fs hu
      obtain ⟨xs, m', rfl, -, hl, hfl, hall⟩ := DataW.trod_struct hu hx
      have := fields_read (enc := enc) (P := P) (W := W) (rec := shOf P n) (tot := P.cellsOf t) (n := m') (cs := cs) hl (fun t sh h cs x hx => reads n t sh h m' cs x hx) fs.toList 0 sh h (by
        intro f hf
        obtain ⟨i, hi⟩ := List.mem_iff_getElem?.1 hf
        have hi' : fs[i]? = some f := by simpa using hi
        have hlt : i < xs.length := by
          have := (List.getElem?_eq_some_iff.1 hi).1
          simp at this; omega
        exact ⟨xs[i], by rw [hall i f hi', List.getElem?_eq_getElem hlt]⟩)
      simpa using this
    · rename_i k e hu
      split at h
      · rename_i hc
        rw [Option.map_eq_some_iff] at h
        obtain ⟨she, he, rfl⟩ := h
        obtain ⟨xs, m', rfl, -, hl, hxl, hall⟩ := DataW.trod_array hu hx
        have := array_read (enc := enc) (P := P) (W := W) (she := she) (n := m') (cs := cs) (k := k) rfl (by rw [hl, hc]) (fun cs x hx => reads n e she he m' cs x hx) (fun i hi => ⟨xs[i]'(by omega), by rw [hall i hi, List.getElem?_eq_getElem (by omega)]⟩) k (Nat.le_refl _)
        simpa using this
      · cases h
    · cases h

/-- A struct that is handed in. -/
theorem arg_agg {t : TypeId} {fs : Array Field} {n : Nat} {sh : Sh} {r : Reach} {b0 : Nat} {v : Value} {d : DataW H} {ps : List MemPlace} (hu : P.underlying t = some (.struct fs)) (hsh : shOf P n t = some sh) (hval : Value.okWide P W r b0 t v) (hd : DataW.Trod enc P W 0 (fun _ => true) true t v d ps) :
    ∃ avs, Rel (Cx.start W) (.agg avs) v ∧ Shaped sh avs := by
  obtain ⟨cs, rfl, -⟩ := okWide_struct hu hval
  obtain ⟨m, hm⟩ := hd
  obtain ⟨avs, h⟩ := reads n t sh hsh m _ _ hm
  refine ⟨avs, ?_, h.shp⟩
  simp only [Rel]
  exact ⟨cs, rfl, h.rel⟩

/-- A slice that is handed in. -/
theorem arg_sl {t e : TypeId} {n : Nat} {agg : Bool} {she : Sh} {r : Reach} {b0 : Nat} {v : Value} {d : DataW H} {ps : List MemPlace} (hu : P.underlying t = some (.slice e)) (hsh : shOf P n t = some (.sl agg she)) (hval : Value.okWide P W r b0 t v) (hd : DataW.Trod enc P W 0 (fun _ => true) true t v d ps) :
    ∃ f es, Rel (Cx.start W) (.sl f es) v ∧ ∀ x ∈ es, ∃ cs, Shaped she cs ∧ x = pack agg cs := by
  obtain ⟨a, len, cap, rfl⟩ := okWide_slice hu hval
  obtain ⟨m, hm⟩ := hd
  obtain ⟨avs, h⟩ := reads n t _ hsh m _ _ hm
  obtain ⟨f, es, rfl, hs⟩ := h.shp
  have hr := h.rel
  rw [RelL] at hr
  obtain ⟨y, s, he, hy, -⟩ := hr
  simp only [Value.cells, List.cons.injEq] at he
  obtain ⟨rfl, -⟩ := he
  exact ⟨f, es, hy, hs⟩

/-- A reading, behind the call. -/
theorem trod_keep {t : TypeId} (hl : laidOutB P = true) (hr : P.readableRec t = true) (hrow : t < P.types.size) {W' : World} {v : Value} {d : DataW H} {ps : List MemPlace} {sp : Nat → Bool}
    (h : DataW.Trod enc P W 0 (fun _ => true) true t v d ps) (hb : Below W.heap.size W W') (hlt : ∀ x ∈ ps, x.block < W.heap.size) (hs : ∀ x ∈ ps, sp x.block = true) :
    DataW.Trod enc P W' 0 sp true t v d ps :=
  WideElems.Trod_stays hl hr hrow h (fun x hx => hb.same (hlt x hx)) hs

theorem trodAll_keep (hl : laidOutB P = true) {W' : World} {sp : Nat → Bool} (hb : Below W.heap.size W W') : ∀ {ts : List TypeId} {vs : List Value} {ds : List (DataW H)} {ps : List MemPlace}, (∀ t ∈ ts, P.readableRec t = true ∧ t < P.types.size) →
    DataW.TrodAll enc P W 0 (fun _ => true) true ts vs ds ps → (∀ x ∈ ps, x.block < W.heap.size) → (∀ x ∈ ps, sp x.block = true) → DataW.TrodAll enc P W' 0 sp true ts vs ds ps
  | [], [], [], _, _, h, _, _ => h
  | t :: ts, v :: vs, d :: ds, _, ht, ⟨p, q, h1, h2, e⟩, hlt, hs =>
    ⟨p, q, trod_keep hl (ht t (List.mem_cons_self ..)).1 (ht t (List.mem_cons_self ..)).2 h1 hb (fun x hx => hlt x (by rw [e]; exact List.mem_append_left _ hx)) (fun x hx => hs x (by rw [e]; exact List.mem_append_left _ hx)),
      trodAll_keep hl hb (fun t ht' => ht t (List.mem_cons_of_mem _ ht')) h2 (fun x hx => hlt x (by rw [e]; exact List.mem_append_right _ hx)) (fun x hx => hs x (by rw [e]; exact List.mem_append_right _ hx)), e⟩

end

/-- Elements, each of a kind, are a list of that kind. -/
theorem list_of {α : Type} {f : α → AV} : ∀ {es : List AV}, (∀ x ∈ es, ∃ a, x = f a) → ∃ l : List α, es = l.map f
  | [], _ => ⟨[], rfl⟩
  | x :: r, h => by
    obtain ⟨a, rfl⟩ := h x (List.mem_cons_self ..)
    obtain ⟨l, rfl⟩ := list_of fun y hy => h y (List.mem_cons_of_mem _ hy)
    exact ⟨a :: l, rfl⟩

end Go.Ab
/-
  Facts with conditions, for a walk whose conditions are discharged.
-/
namespace Go.Ab
open Go.Proofs
set_option linter.unusedSimpArgs false
set_option linter.unusedVariables false
set_option maxRecDepth 100000

variable {H : Heap}

abbrev I (n : Int) : AV := .int .i64 n

theorem w64 {n : Int} (h1 : -9223372036854775808 ≤ n) (h2 : n < 9223372036854775808) : IntKind.i64.wrap n = n := by
  simp only [IntKind.wrap, IntKind.bits, IntKind.signed]
  have e : (2 : Int) ^ 64 = 18446744073709551616 := by decide
  have e' : (2 : Int) ^ (64 - 1) = 9223372036854775808 := by decide
  simp only [Bool.true_and, decide_eq_true_eq, e, e']
  split <;> omega

theorem i64ok {n : Int} (h : -9223372036854775808 ≤ n ∧ n < 9223372036854775808) : IntKind.i64.wrap n = n := w64 h.1 h.2
theorem i64nat {n : Nat} (h : (n : Int) < 9223372036854775807) : IntKind.i64.wrap ((n : Int) + 1) = ((n + 1 : Nat) : Int) := by rw [w64 (by omega) (by omega)]; rfl
theorem ltT {a b : Int} (h : a < b) : (a < b) = True := eq_true h
theorem ltF {a b : Int} (h : ¬ a < b) : (a < b) = False := eq_false h
theorem leT {a b : Int} (h : a ≤ b) : (a ≤ b) = True := eq_true h
theorem leF {a b : Int} (h : ¬ a ≤ b) : (a ≤ b) = False := eq_false h

theorem SlOk.fI {v : AV} {xs : List Int} (h : SlOk H 1 v (xs.map I)) :
   (∀ (G : Heap) (te : Ty) (k : Int), te.size = 1 → (0 ≤ k ∧ k < xs.length) → idxAddr (H ++ G) te v k = some (elA v k 0)) ∧ 
   (∀ (te : Ty) (k : Int), te.size = 1 → (0 ≤ k ∧ k < xs.length) → idxAddr H te v k = some (elA v k 0)) ∧ 
   (∀ (G : Heap) (te : Ty) (k : Int), (0 ≤ k ∧ k < xs.length) → evLoad (H ++ G) te (elA v k 0) = readPart [I (xs.getD k.toNat 0)] 0 te) ∧
   (∀ (te : Ty) (k : Int), (0 ≤ k ∧ k < xs.length) → evLoad H te (elA v k 0) = readPart [I (xs.getD k.toNat 0)] 0 te) := by
  have key : ∀ k : Int, (0 ≤ k ∧ k < xs.length) → (xs.map I)[k.toNat]? = some (I (xs.getD k.toNat 0)) := by
    intro k hk
    have : k.toNat < xs.length := by omega
    simp [this]
  refine ⟨fun G te k hs hk => ?_, fun te k hs hk => ?_, fun G te k hk => ?_, fun te k hk => ?_⟩
  · exact (h.at hk.1 (key k hk)).2.2.2.1 G te hs
  · exact (h.at hk.1 (key k hk)).1 te hs
  · rw [(h.at hk.1 (key k hk)).2.2.2.2 G 0 te]; rfl
  · rw [(h.at hk.1 (key k hk)).2.1 0 te]; rfl

theorem readOf_makeMap {C : Cfg} {e : Env} {t : TypeId} {m : Option Operand} : readOf C e (.makeMap t m) = none := rfl
theorem readOf_makeSlice {C : Cfg} {e : Env} {t : TypeId} {a b : Operand} : readOf C e (.makeSlice t a b) = none := rfl
theorem readOf_box {C : Cfg} {e : Env} {t : TypeId} {a : Operand} : readOf C e (.box t a) = none := rfl

/-- What waits for a condition: both ways. -/
theorem cond_both {β : Type} {F : Done → β} {R : Option β} {b : Bool} {s : St} {f g : St → Option Done} (h1 : b = true → Option.map F (f s) = R) (h2 : b = false → Option.map F (g s) = R) : Option.map F (condK (.bool b) s f g) = R := by
  cases b
  · exact h2 rfl
  · exact h1 rfl

theorem guard_both {β : Type} {F : Done → β} {R : Option β} {b w : Bool} {s : St} {f g : St → Option RR} {k : St → Option Done} {p : AV → St → Option Done} (h1 : b = true → Option.map F (regK (guardK (.bool true) w s f g) k p) = R) (h2 : b = false → Option.map F (regK (guardK (.bool false) w s f g) k p) = R) : Option.map F (regK (guardK (.bool b) w s f g) k p) = R := by
  cases b
  · exact h2 rfl
  · exact h1 rfl

theorem call_both {β : Type} {F : Done → β} {R : Option β} {b : Bool} {x y : Done} {k p : AV → Heap → Option RR} {k' : St → Option Done} {p' : AV → St → Option Done} (h1 : b = true → Option.map F (regK (callK (some x) k p) k' p') = R) (h2 : b = false → Option.map F (regK (callK (some y) k p) k' p') = R) : Option.map F (regK (callK (some (if b = true then x else y)) k p) k' p') = R := by
  cases b
  · exact h2 rfl
  · exact h1 rfl

theorem cond_split {β : Type} {F : Done → β} {R : Option β} {b : Bool} {s : St} {f g : St → Option Done} (h1 : b = true → b = true → b = true → Option.map F (f s) = R) (h2 : b = false → b = false → b = false → Option.map F (g s) = R) : Option.map F (condK (.bool b) s f g) = R :=
  cond_both (fun h => h1 h h h) fun h => h2 h h h

theorem cond_dec {β : Type} {F : Done → β} {R : Option β} {p : Prop} [Decidable p] {s : St} {f g : St → Option Done} (h1 : p → p → p → Option.map F (f s) = R) (h2 : ¬ p → ¬ p → ¬ p → Option.map F (g s) = R) : Option.map F (condK (.bool (decide p)) s f g) = R :=
  cond_both (fun h => h1 (of_decide_eq_true h) (of_decide_eq_true h) (of_decide_eq_true h)) fun h => h2 (of_decide_eq_false h) (of_decide_eq_false h) (of_decide_eq_false h)

theorem cond_not {β : Type} {F : Done → β} {R : Option β} {b : Bool} {s : St} {f g : St → Option Done} (h1 : b = false → b = false → b = false → Option.map F (f s) = R) (h2 : b = true → b = true → b = true → Option.map F (g s) = R) : Option.map F (condK (.bool !b) s f g) = R :=
  cond_both (fun h => h1 (by simpa using h) (by simpa using h) (by simpa using h)) fun h => h2 (by simpa using h) (by simpa using h) (by simpa using h)

theorem cond_ndec {β : Type} {F : Done → β} {R : Option β} {p : Prop} [Decidable p] {s : St} {f g : St → Option Done} (h1 : ¬ p → ¬ p → ¬ p → Option.map F (f s) = R) (h2 : p → p → p → Option.map F (g s) = R) : Option.map F (condK (.bool !decide p) s f g) = R :=
  cond_both (fun h => h1 (by simpa using h) (by simpa using h) (by simpa using h)) fun h => h2 (by simpa using h) (by simpa using h) (by simpa using h)

theorem cond_beq {β : Type} {F : Done → β} {R : Option β} {x y : Int} {s : St} {f g : St → Option Done} (h1 : (x == y) = true → x = y → (x == y) = true → Option.map F (f s) = R) (h2 : (x == y) = false → ¬ x = y → (x == y) = false → Option.map F (g s) = R) : Option.map F (condK (.bool (x == y)) s f g) = R :=
  cond_both (fun h => h1 h (by simpa using h) h) fun h => h2 h (by simpa using h) h

theorem cond_bne {β : Type} {F : Done → β} {R : Option β} {x y : Int} {s : St} {f g : St → Option Done} (h1 : (x != y) = true → ¬ x = y → (x == y) = false → Option.map F (f s) = R) (h2 : (x != y) = false → x = y → (x == y) = true → Option.map F (g s) = R) : Option.map F (condK (.bool (x != y)) s f g) = R :=
  cond_both (fun h => h1 h (by simpa using h) (by simpa using h)) fun h => h2 h (by simpa using h) (by simpa using h)

theorem cond_ifb {β : Type} {F : Done → β} {R : Option β} {b : Bool} {x y z : Int} {s : St} {f g : St → Option Done} (h1 : b = true → b = true → b = true → Option.map F (condK (.bool (x != z)) s f g) = R) (h2 : b = false → b = false → b = false → Option.map F (condK (.bool (y != z)) s f g) = R) : Option.map F (condK (.bool ((if b = true then x else y) != z)) s f g) = R := by
  cases b
  · exact h2 rfl rfl rfl
  · exact h1 rfl rfl rfl

theorem guard_split {β : Type} {F : Done → β} {R : Option β} {b : Bool} {w : Bool} {s : St} {f g : St → Option RR} {k : St → Option Done} {q : AV → St → Option Done} (h1 : b = true → b = true → b = true → Option.map F (regK (guardK (.bool true) w s f g) k q) = R) (h2 : b = false → b = false → b = false → Option.map F (regK (guardK (.bool false) w s f g) k q) = R) : Option.map F (regK (guardK (.bool b) w s f g) k q) = R :=
  guard_both (fun h => h1 h h h) fun h => h2 h h h

theorem guard_dec {β : Type} {F : Done → β} {R : Option β} {p : Prop} [Decidable p] {w : Bool} {s : St} {f g : St → Option RR} {k : St → Option Done} {q : AV → St → Option Done} (h1 : p → p → p → Option.map F (regK (guardK (.bool true) w s f g) k q) = R) (h2 : ¬ p → ¬ p → ¬ p → Option.map F (regK (guardK (.bool false) w s f g) k q) = R) : Option.map F (regK (guardK (.bool (decide p)) w s f g) k q) = R :=
  guard_both (fun h => h1 (of_decide_eq_true h) (of_decide_eq_true h) (of_decide_eq_true h)) fun h => h2 (of_decide_eq_false h) (of_decide_eq_false h) (of_decide_eq_false h)

theorem guard_not {β : Type} {F : Done → β} {R : Option β} {b : Bool} {w : Bool} {s : St} {f g : St → Option RR} {k : St → Option Done} {q : AV → St → Option Done} (h1 : b = false → b = false → b = false → Option.map F (regK (guardK (.bool true) w s f g) k q) = R) (h2 : b = true → b = true → b = true → Option.map F (regK (guardK (.bool false) w s f g) k q) = R) : Option.map F (regK (guardK (.bool !b) w s f g) k q) = R :=
  guard_both (fun h => h1 (by simpa using h) (by simpa using h) (by simpa using h)) fun h => h2 (by simpa using h) (by simpa using h) (by simpa using h)

theorem guard_ndec {β : Type} {F : Done → β} {R : Option β} {p : Prop} [Decidable p] {w : Bool} {s : St} {f g : St → Option RR} {k : St → Option Done} {q : AV → St → Option Done} (h1 : ¬ p → ¬ p → ¬ p → Option.map F (regK (guardK (.bool true) w s f g) k q) = R) (h2 : p → p → p → Option.map F (regK (guardK (.bool false) w s f g) k q) = R) : Option.map F (regK (guardK (.bool !decide p) w s f g) k q) = R :=
  guard_both (fun h => h1 (by simpa using h) (by simpa using h) (by simpa using h)) fun h => h2 (by simpa using h) (by simpa using h) (by simpa using h)

theorem guard_beq {β : Type} {F : Done → β} {R : Option β} {x y : Int} {w : Bool} {s : St} {f g : St → Option RR} {k : St → Option Done} {q : AV → St → Option Done} (h1 : (x == y) = true → x = y → (x == y) = true → Option.map F (regK (guardK (.bool true) w s f g) k q) = R) (h2 : (x == y) = false → ¬ x = y → (x == y) = false → Option.map F (regK (guardK (.bool false) w s f g) k q) = R) : Option.map F (regK (guardK (.bool (x == y)) w s f g) k q) = R :=
  guard_both (fun h => h1 h (by simpa using h) h) fun h => h2 h (by simpa using h) h

theorem guard_bne {β : Type} {F : Done → β} {R : Option β} {x y : Int} {w : Bool} {s : St} {f g : St → Option RR} {k : St → Option Done} {q : AV → St → Option Done} (h1 : (x != y) = true → ¬ x = y → (x == y) = false → Option.map F (regK (guardK (.bool true) w s f g) k q) = R) (h2 : (x != y) = false → x = y → (x == y) = true → Option.map F (regK (guardK (.bool false) w s f g) k q) = R) : Option.map F (regK (guardK (.bool (x != y)) w s f g) k q) = R :=
  guard_both (fun h => h1 h (by simpa using h) (by simpa using h)) fun h => h2 h (by simpa using h) (by simpa using h)

theorem guard_ifb {β : Type} {F : Done → β} {R : Option β} {b : Bool} {x y z : Int} {w : Bool} {s : St} {f g : St → Option RR} {k : St → Option Done} {q : AV → St → Option Done} (h1 : b = true → b = true → b = true → Option.map F (regK (guardK (.bool (x != z)) w s f g) k q) = R) (h2 : b = false → b = false → b = false → Option.map F (regK (guardK (.bool (y != z)) w s f g) k q) = R) : Option.map F (regK (guardK (.bool ((if b = true then x else y) != z)) w s f g) k q) = R := by
  cases b
  · exact h2 rfl rfl rfl
  · exact h1 rfl rfl rfl

theorem call_ifb {β : Type} {F : Done → β} {R : Option β} {b : Bool} {x y : Out} {H' : Heap} {q : Option (AV × Bool)} {k p : AV → Heap → Option RR} {k' : St → Option Done} {p' : AV → St → Option Done} (h1 : b = true → b = true → b = true → Option.map F (regK (callK (some ⟨x, H', q⟩) k p) k' p') = R) (h2 : b = false → b = false → b = false → Option.map F (regK (callK (some ⟨y, H', q⟩) k p) k' p') = R) : Option.map F (regK (callK (some ⟨if b = true then x else y, H', q⟩) k p) k' p') = R := by
  cases b
  · exact h2 rfl rfl rfl
  · exact h1 rfl rfl rfl

theorem call_ifd {β : Type} {F : Done → β} {R : Option β} {b : Bool} {x y : Done} {k p : AV → Heap → Option RR} {k' : St → Option Done} {p' : AV → St → Option Done} (h1 : b = true → b = true → b = true → Option.map F (regK (callK (some x) k p) k' p') = R) (h2 : b = false → b = false → b = false → Option.map F (regK (callK (some y) k p) k' p') = R) : Option.map F (regK (callK (some (if b = true then x else y)) k p) k' p') = R :=
  call_both (fun h => h1 h h h) fun h => h2 h h h

theorem call_beq {β : Type} {F : Done → β} {R : Option β} {a b : Int} {x y : Out} {H' : Heap} {q : Option (AV × Bool)} {k p : AV → Heap → Option RR} {k' : St → Option Done} {p' : AV → St → Option Done} (h1 : (a == b) = true → a = b → (a == b) = true → Option.map F (regK (callK (some ⟨x, H', q⟩) k p) k' p') = R) (h2 : (a == b) = false → ¬ a = b → (a == b) = false → Option.map F (regK (callK (some ⟨y, H', q⟩) k p) k' p') = R) : Option.map F (regK (callK (some ⟨if (a == b) = true then x else y, H', q⟩) k p) k' p') = R :=
  call_ifb (fun h _ _ => h1 h (by simpa using h) h) fun h _ _ => h2 h (by simpa using h) h

theorem call_dec {β : Type} {F : Done → β} {R : Option β} {c : Prop} [Decidable c] {x y : Out} {H' : Heap} {q : Option (AV × Bool)} {k p : AV → Heap → Option RR} {k' : St → Option Done} {p' : AV → St → Option Done} (h1 : c → c → c → Option.map F (regK (callK (some ⟨x, H', q⟩) k p) k' p') = R) (h2 : ¬ c → ¬ c → ¬ c → Option.map F (regK (callK (some ⟨y, H', q⟩) k p) k' p') = R) : Option.map F (regK (callK (some ⟨if c then x else y, H', q⟩) k p) k' p') = R := by
  by_cases h : c
  · rw [if_pos h]; exact h1 h h h
  · rw [if_neg h]; exact h2 h h h

attribute [go_sem] i64ok i64nat Int.toNat_natCast Nat.mul_one List.length_map decide_true decide_false Bool.true_and Bool.and_true Bool.false_and Bool.and_false Bool.true_or Bool.or_true Bool.false_or Bool.or_false Bool.not_true Bool.not_false Bool.not_not Option.isSome_none Option.isSome_some readOf_makeMap readOf_makeSlice readOf_box List.append_eq

end Go.Ab
/-
  Plain loops: what a loop with an early end finds, and what a loop gathers.
-/
namespace Go.Ab
set_option linter.unusedSimpArgs false
set_option linter.unusedVariables false

/-- Does f hold of one of the q numbers from j on? -/
def anyF (f : Nat → Bool) : Nat → Nat → Bool
  | _, 0 => false
  | j, q + 1 => f j || anyF f (j + 1) q

/-- The first that f yields, of the q numbers from j on. -/
def findF {α : Type} (f : Nat → Option α) : Nat → Nat → Option α
  | _, 0 => none
  | j, q + 1 => match f j with
    | some x => some x
    | none => findF f (j + 1) q

/-- What is gathered over the q numbers from j on. -/
def foldF {β : Type} (g : β → Nat → β) : β → Nat → Nat → β
  | b, _, 0 => b
  | b, j, q + 1 => foldF g (g b j) (j + 1) q

theorem anyF_iff (f : Nat → Bool) : ∀ (q j : Nat), anyF f j q = true ↔ ∃ i, j ≤ i ∧ i < j + q ∧ f i = true
  | 0, j => by simp [anyF]; intro x h1 h2; omega
  | q + 1, j => by
    simp only [anyF, Bool.or_eq_true, anyF_iff f q (j + 1)]
    constructor
    · rintro (h | ⟨i, h1, h2, h3⟩)
      · exact ⟨j, by omega, by omega, h⟩
      · exact ⟨i, by omega, by omega, h3⟩
    · rintro ⟨i, h1, h2, h3⟩
      by_cases e : i = j
      · subst e; exact .inl h3
      · exact .inr ⟨i, by omega, by omega, h3⟩

theorem anyF_false (f : Nat → Bool) (q j : Nat) : anyF f j q = false ↔ ∀ i, j ≤ i → i < j + q → f i = false := by
  rw [← Bool.not_eq_true, anyF_iff]
  constructor
  · intro h i h1 h2
    rw [← Bool.not_eq_true]
    intro h3
    exact h ⟨i, h1, h2, h3⟩
  · rintro h ⟨i, h1, h2, h3⟩
    rw [h i h1 h2] at h3
    cases h3

theorem findF_none {α : Type} (f : Nat → Option α) : ∀ (q j : Nat), findF f j q = none ↔ ∀ i, j ≤ i → i < j + q → f i = none
  | 0, j => by simp [findF]; intro i h1 h2; omega
  | q + 1, j => by
    simp only [findF]
    cases h : f j with
    | some x =>
      simp only [reduceCtorEq, false_iff]
      intro h2
      have := h2 j (by omega) (by omega)
      rw [h] at this; cases this
    | none =>
      simp only
      rw [findF_none f q (j + 1)]
      constructor
      · intro h2 i h3 h4
        by_cases e : i = j
        · subst e; exact h
        · exact h2 i (by omega) (by omega)
      · intro h2 i h3 h4
        exact h2 i (by omega) (by omega)

theorem findF_some {α : Type} (f : Nat → Option α) (x : α) : ∀ (q j : Nat), findF f j q = some x ↔ ∃ i, j ≤ i ∧ i < j + q ∧ f i = some x ∧ ∀ k, j ≤ k → k < i → f k = none
  | 0, j => by
    simp only [findF, reduceCtorEq, false_iff]
    rintro ⟨i, h1, h2, -⟩; omega
  | q + 1, j => by
    simp only [findF]
    cases h : f j with
    | some y =>
      simp only [Option.some.injEq]
      constructor
      · rintro rfl
        exact ⟨j, by omega, by omega, h, fun k h1 h2 => by omega⟩
      · rintro ⟨i, h1, h2, h3, h4⟩
        by_cases e : i = j
        · subst e; rw [h] at h3; injection h3
        · have := h4 j (by omega) (by omega)
          rw [h] at this; cases this
    | none =>
      simp only
      rw [findF_some f x q (j + 1)]
      constructor
      · rintro ⟨i, h1, h2, h3, h4⟩
        refine ⟨i, by omega, by omega, h3, fun k h5 h6 => ?_⟩
        by_cases e : k = j
        · subst e; exact h
        · exact h4 k (by omega) h6
      · rintro ⟨i, h1, h2, h3, h4⟩
        have : i ≠ j := by rintro rfl; rw [h] at h3; cases h3
        exact ⟨i, by omega, by omega, h3, fun k h5 h6 => h4 k (by omega) h6⟩

theorem foldF_inv {β : Type} (g : β → Nat → β) (P : Nat → β → Prop) : ∀ (q j : Nat) (b : β), P j b → (∀ i b, j ≤ i → i < j + q → P i b → P (i + 1) (g b i)) → P (j + q) (foldF g b j q)
  | 0, j, b, h, _ => by simpa [foldF] using h
  | q + 1, j, b, h, hs => by
    have := foldF_inv g P q (j + 1) (g b j) (hs j b (by omega) (by omega) h) (fun i b h1 h2 => hs i b (by omega) (by omega))
    rw [show j + (q + 1) = j + 1 + q by omega]
    exact this

theorem foldF_snoc {β : Type} (g : β → Nat → β) : ∀ (q j : Nat) (b : β), foldF g b j (q + 1) = g (foldF g b j q) (j + q)
  | 0, j, b => by simp [foldF]
  | q + 1, j, b => by
    rw [foldF, foldF_snoc g q (j + 1) (g b j)]
    rw [show j + 1 + q = j + (q + 1) by omega]
    rfl

theorem foldF_congr {β : Type} {g g' : β → Nat → β} : ∀ (q j : Nat) (b : β), (∀ i b, j ≤ i → i < j + q → g b i = g' b i) → foldF g b j q = foldF g' b j q
  | 0, _, _, _ => rfl
  | q + 1, j, b, h => by
    rw [foldF, foldF, h j b (by omega) (by omega)]
    exact foldF_congr q (j + 1) _ (fun i b h1 h2 => h i b (by omega) (by omega))

end Go.Ab
/-
  Plain helpers of wear: spans, what is known, both.
-/
namespace Go.Ab
open Go.Proofs
set_option linter.unusedSimpArgs false
set_option linter.unusedVariables false
set_option maxRecDepth 100000

variable {H : Heap}

/-- Is a number from one to another one? -/
def wi (n lo hi : Int) : Bool := decide (lo ≤ n) && decide (n ≤ hi)
theorem wi_iff {n lo hi : Int} : wi n lo hi = true ↔ lo ≤ n ∧ n ≤ hi := by simp [wi]

theorem we_within (n lo hi : Int) (H : Heap) : callFL cfg0 prog0 false 43 [I n, I lo, I hi] H none = some ⟨.ret (.bool (wi n lo hi)), H, none⟩ := by
  refine (callFL_eq fn43 rfl (by simp [Tryd.f43])).trans ?_
  simp (maxSteps := 1000000) (implicitDefEqProofs := false) (disch := first | rfl | omega | assumption) only [go_sem, ltT, ltF, leT, leF, wi]
  repeat' ((with_reducible first
      | refine cond_ifb (fun hc hd he => ?_) (fun hc hd he => ?_)
      | refine guard_ifb (fun hc hd he => ?_) (fun hc hd he => ?_)
      | refine cond_dec (fun hc hd he => ?_) (fun hc hd he => ?_)
      | refine guard_dec (fun hc hd he => ?_) (fun hc hd he => ?_)
      | refine cond_ndec (fun hc hd he => ?_) (fun hc hd he => ?_)
      | refine guard_ndec (fun hc hd he => ?_) (fun hc hd he => ?_)
      | refine cond_not (fun hc hd he => ?_) (fun hc hd he => ?_)
      | refine guard_not (fun hc hd he => ?_) (fun hc hd he => ?_)
      | refine cond_beq (fun hc hd he => ?_) (fun hc hd he => ?_)
      | refine guard_beq (fun hc hd he => ?_) (fun hc hd he => ?_)
      | refine cond_bne (fun hc hd he => ?_) (fun hc hd he => ?_)
      | refine guard_bne (fun hc hd he => ?_) (fun hc hd he => ?_)
      | refine cond_split (fun hc hd he => ?_) (fun hc hd he => ?_)
      | refine guard_split (fun hc hd he => ?_) (fun hc hd he => ?_)
      | refine call_beq (fun hc hd he => ?_) (fun hc hd he => ?_)
      | refine call_ifb (fun hc hd he => ?_) (fun hc hd he => ?_)
      | refine call_ifd (fun hc hd he => ?_) (fun hc hd he => ?_)
      | refine call_dec (fun hc hd he => ?_) (fun hc hd he => ?_)) <;> try simp (maxSteps := 1000000) (implicitDefEqProofs := false) (disch := first | rfl | omega | assumption) only [go_sem, ltT, ltF, leT, leF, hc, he, wi])

theorem ref_in (n lo hi : Int) (H : Heap) : callFL cfg0 prog0 false 82 [I n, I lo, I hi] H none = some ⟨.ret (.bool (wi n lo hi)), H, none⟩ := by
  refine (callFL_eq fn82 rfl (by simp [Tryd.f82])).trans ?_
  simp (maxSteps := 1000000) (implicitDefEqProofs := false) (disch := first | rfl | omega | assumption) only [go_sem, ltT, ltF, leT, leF, wi]
  repeat' ((with_reducible first
      | refine cond_ifb (fun hc hd he => ?_) (fun hc hd he => ?_)
      | refine guard_ifb (fun hc hd he => ?_) (fun hc hd he => ?_)
      | refine cond_dec (fun hc hd he => ?_) (fun hc hd he => ?_)
      | refine guard_dec (fun hc hd he => ?_) (fun hc hd he => ?_)
      | refine cond_ndec (fun hc hd he => ?_) (fun hc hd he => ?_)
      | refine guard_ndec (fun hc hd he => ?_) (fun hc hd he => ?_)
      | refine cond_not (fun hc hd he => ?_) (fun hc hd he => ?_)
      | refine guard_not (fun hc hd he => ?_) (fun hc hd he => ?_)
      | refine cond_beq (fun hc hd he => ?_) (fun hc hd he => ?_)
      | refine guard_beq (fun hc hd he => ?_) (fun hc hd he => ?_)
      | refine cond_bne (fun hc hd he => ?_) (fun hc hd he => ?_)
      | refine guard_bne (fun hc hd he => ?_) (fun hc hd he => ?_)
      | refine cond_split (fun hc hd he => ?_) (fun hc hd he => ?_)
      | refine guard_split (fun hc hd he => ?_) (fun hc hd he => ?_)
      | refine call_beq (fun hc hd he => ?_) (fun hc hd he => ?_)
      | refine call_ifb (fun hc hd he => ?_) (fun hc hd he => ?_)
      | refine call_ifd (fun hc hd he => ?_) (fun hc hd he => ?_)
      | refine call_dec (fun hc hd he => ?_) (fun hc hd he => ?_)) <;> try simp (maxSteps := 1000000) (implicitDefEqProofs := false) (disch := first | rfl | omega | assumption) only [go_sem, ltT, ltF, leT, leF, hc, he, wi])

theorem we_isLimit (n : Int) (H : Heap) : callFL cfg0 prog0 false 52 [I n] H none = some ⟨.ret (.bool (wi n (-1000) 1000)), H, none⟩ := by
  refine (callFL_eq fn52 rfl (by simp [Tryd.f52])).trans ?_
  simp (maxSteps := 1000000) (implicitDefEqProofs := false) (disch := first | rfl | omega | assumption) only [go_sem, ltT, ltF, leT, leF, we_within]

theorem ref_Limit (n : Int) (H : Heap) : callFL cfg0 prog0 false 53 [I n] H none = some ⟨.ret (.bool (wi n (-1000) 1000)), H, none⟩ := by
  refine (callFL_eq fn53 rfl (by simp [Tryd.f53])).trans ?_
  simp (maxSteps := 1000000) (implicitDefEqProofs := false) (disch := first | rfl | omega | assumption) only [go_sem, ltT, ltF, leT, leF, ref_in]

/-- Two numbers. -/
abbrev KV (p : Int × Int) : AV := .agg [I p.1, I p.2]

def spB (p : Int × Int) (lo hi : Int) : Bool := decide (lo ≤ p.1) && (decide (p.1 ≤ p.2) && decide (p.2 ≤ hi))
theorem spB_iff {p : Int × Int} {lo hi : Int} : spB p lo hi = true ↔ lo ≤ p.1 ∧ p.1 ≤ p.2 ∧ p.2 ≤ hi := by simp [spB]

theorem we_isSpan (a b lo hi : Int) (H : Heap) : callFL cfg0 prog0 false 55 [.agg [I a, I b], I lo, I hi] H none = some ⟨.ret (.bool (spB (a, b) lo hi)), H, none⟩ := by
  refine (callFL_eq fn55 rfl (by simp [Tryd.f55])).trans ?_
  simp (maxSteps := 1000000) (implicitDefEqProofs := false) (disch := first | rfl | omega | assumption) only [go_sem, ltT, ltF, leT, leF, spB]
  repeat' ((with_reducible first
      | refine cond_ifb (fun hc hd he => ?_) (fun hc hd he => ?_)
      | refine guard_ifb (fun hc hd he => ?_) (fun hc hd he => ?_)
      | refine cond_dec (fun hc hd he => ?_) (fun hc hd he => ?_)
      | refine guard_dec (fun hc hd he => ?_) (fun hc hd he => ?_)
      | refine cond_ndec (fun hc hd he => ?_) (fun hc hd he => ?_)
      | refine guard_ndec (fun hc hd he => ?_) (fun hc hd he => ?_)
      | refine cond_not (fun hc hd he => ?_) (fun hc hd he => ?_)
      | refine guard_not (fun hc hd he => ?_) (fun hc hd he => ?_)
      | refine cond_beq (fun hc hd he => ?_) (fun hc hd he => ?_)
      | refine guard_beq (fun hc hd he => ?_) (fun hc hd he => ?_)
      | refine cond_bne (fun hc hd he => ?_) (fun hc hd he => ?_)
      | refine guard_bne (fun hc hd he => ?_) (fun hc hd he => ?_)
      | refine cond_split (fun hc hd he => ?_) (fun hc hd he => ?_)
      | refine guard_split (fun hc hd he => ?_) (fun hc hd he => ?_)
      | refine call_beq (fun hc hd he => ?_) (fun hc hd he => ?_)
      | refine call_ifb (fun hc hd he => ?_) (fun hc hd he => ?_)
      | refine call_ifd (fun hc hd he => ?_) (fun hc hd he => ?_)
      | refine call_dec (fun hc hd he => ?_) (fun hc hd he => ?_)) <;> try simp (maxSteps := 1000000) (implicitDefEqProofs := false) (disch := first | rfl | omega | assumption) only [go_sem, ltT, ltF, leT, leF, hc, he, spB])

theorem ref_span (a b lo hi : Int) (H : Heap) : callFL cfg0 prog0 false 76 [.agg [I a, I b], I lo, I hi] H none = some ⟨.ret (.bool (spB (a, b) lo hi)), H, none⟩ := by
  refine (callFL_eq fn76 rfl (by simp [Tryd.f76])).trans ?_
  simp (maxSteps := 1000000) (implicitDefEqProofs := false) (disch := first | rfl | omega | assumption) only [go_sem, ltT, ltF, leT, leF, spB]
  repeat' ((with_reducible first
      | refine cond_ifb (fun hc hd he => ?_) (fun hc hd he => ?_)
      | refine guard_ifb (fun hc hd he => ?_) (fun hc hd he => ?_)
      | refine cond_dec (fun hc hd he => ?_) (fun hc hd he => ?_)
      | refine guard_dec (fun hc hd he => ?_) (fun hc hd he => ?_)
      | refine cond_ndec (fun hc hd he => ?_) (fun hc hd he => ?_)
      | refine guard_ndec (fun hc hd he => ?_) (fun hc hd he => ?_)
      | refine cond_not (fun hc hd he => ?_) (fun hc hd he => ?_)
      | refine guard_not (fun hc hd he => ?_) (fun hc hd he => ?_)
      | refine cond_beq (fun hc hd he => ?_) (fun hc hd he => ?_)
      | refine guard_beq (fun hc hd he => ?_) (fun hc hd he => ?_)
      | refine cond_bne (fun hc hd he => ?_) (fun hc hd he => ?_)
      | refine guard_bne (fun hc hd he => ?_) (fun hc hd he => ?_)
      | refine cond_split (fun hc hd he => ?_) (fun hc hd he => ?_)
      | refine guard_split (fun hc hd he => ?_) (fun hc hd he => ?_)
      | refine call_beq (fun hc hd he => ?_) (fun hc hd he => ?_)
      | refine call_ifb (fun hc hd he => ?_) (fun hc hd he => ?_)
      | refine call_ifd (fun hc hd he => ?_) (fun hc hd he => ?_)
      | refine call_dec (fun hc hd he => ?_) (fun hc hd he => ?_)) <;> try simp (maxSteps := 1000000) (implicitDefEqProofs := false) (disch := first | rfl | omega | assumption) only [go_sem, ltT, ltF, leT, leF, hc, he, spB])

theorem ref_Shows (a b : Int) (H : Heap) : callFL cfg0 prog0 false 59 [.agg [I a, I b]] H none = some ⟨.ret (.bool (spB (a, b) (-1000) 1000)), H, none⟩ := by
  refine (callFL_eq fn59 rfl (by simp [Tryd.f59])).trans ?_
  simp (maxSteps := 1000000) (implicitDefEqProofs := false) (disch := first | rfl | omega | assumption) only [go_sem, ltT, ltF, leT, leF, ref_span]

theorem we_some (a b : Int) (H : Heap) : callFL cfg0 prog0 false 58 [.agg [I a, I b]] H none = some ⟨.ret (.bool (decide (a ≤ b))), H, none⟩ := by
  refine (callFL_eq fn58 rfl (by simp [Tryd.f58])).trans ?_
  simp (maxSteps := 1000000) (implicitDefEqProofs := false) (disch := first | rfl | omega | assumption) only [go_sem]

theorem we_ask (b : Bool) (e : Int) (H : Heap) : callFL cfg0 prog0 false 60 [.bool b, I e] H none = some ⟨if b then .ret (.tup []) else .pan (.iface 117 (I e)), H, none⟩ := by
  refine (callFL_eq fn60 rfl (by simp [Tryd.f60])).trans ?_
  cases b <;> simp (maxSteps := 1000000) (implicitDefEqProofs := false) (disch := first | rfl | omega | assumption) only [go_sem, ltT, ltF, leT, leF]

def mx (a b : Int) : Int := if a < b then b else a
def mn (a b : Int) : Int := if b < a then b else a

/-- What both know. -/
def bothP (p q : Int × Int) : Int × Int := if mx p.1 q.1 ≤ mn p.2 q.2 then (mx p.1 q.1, mn p.2 q.2) else (1048576, -1048576)

theorem we_both (a b c d : Int) (H : Heap) : callFL cfg0 prog0 false 57 [.sl true [.agg [I a, I b], .agg [I c, I d]]] H none = some ⟨.ret (KV (bothP (a, b) (c, d))), H, none⟩ := by
  have k1 : ∀ G : Heap, SlOk G 2 (.sl true [.agg [I a, I b], .agg [I c, I d]]) [.agg [I a, I b], .agg [I c, I d]] := fun G => ⟨rfl, by simp [AV.cells]⟩
  have k2 : ∀ G : Heap, SlOk G 2 (.sl false [.agg [I c, I d]]) [.agg [I c, I d]] := fun G => ⟨rfl, by simp [AV.cells]⟩
  have a1 := fun (G : Heap) (te : Ty) (h : te.size = 2) => ((k1 G).at (k := 0) (x := .agg [I a, I b]) (by omega) rfl).1 te h
  have a2 := fun (G : Heap) => ((k1 G).at (k := 0) (x := .agg [I a, I b]) (by omega) rfl).2.1
  have b1 := fun (G : Heap) (te : Ty) (h : te.size = 2) => ((k2 G).at (k := 0) (x := .agg [I c, I d]) (by omega) rfl).1 te h
  have b2 := fun (G : Heap) => ((k2 G).at (k := 0) (x := .agg [I c, I d]) (by omega) rfl).2.1
  simp only [bothP]
  refine (callFL_eq fn57 rfl (by simp [Tryd.f57])).trans ?_
  simp (maxSteps := 1000000) (implicitDefEqProofs := false) (disch := first | rfl | omega | assumption) only [go_sem, a1, a2]
  rw [execL_inLoop]
  simp (maxSteps := 1000000) (implicitDefEqProofs := false) (disch := first | rfl | omega | assumption) only [go_sem, b1, b2]
  rw [execL_inLoop]
  simp (maxSteps := 1000000) (implicitDefEqProofs := false) (disch := first | rfl | omega | assumption) only [go_sem, we_some, mx, mn]
  repeat' ((with_reducible first
      | refine cond_ifb (fun hc hd he => ?_) (fun hc hd he => ?_)
      | refine guard_ifb (fun hc hd he => ?_) (fun hc hd he => ?_)
      | refine cond_dec (fun hc hd he => ?_) (fun hc hd he => ?_)
      | refine guard_dec (fun hc hd he => ?_) (fun hc hd he => ?_)
      | refine cond_ndec (fun hc hd he => ?_) (fun hc hd he => ?_)
      | refine guard_ndec (fun hc hd he => ?_) (fun hc hd he => ?_)
      | refine cond_not (fun hc hd he => ?_) (fun hc hd he => ?_)
      | refine guard_not (fun hc hd he => ?_) (fun hc hd he => ?_)
      | refine cond_beq (fun hc hd he => ?_) (fun hc hd he => ?_)
      | refine guard_beq (fun hc hd he => ?_) (fun hc hd he => ?_)
      | refine cond_bne (fun hc hd he => ?_) (fun hc hd he => ?_)
      | refine guard_bne (fun hc hd he => ?_) (fun hc hd he => ?_)
      | refine cond_split (fun hc hd he => ?_) (fun hc hd he => ?_)
      | refine guard_split (fun hc hd he => ?_) (fun hc hd he => ?_)
      | refine call_beq (fun hc hd he => ?_) (fun hc hd he => ?_)
      | refine call_ifb (fun hc hd he => ?_) (fun hc hd he => ?_)
      | refine call_ifd (fun hc hd he => ?_) (fun hc hd he => ?_)
      | refine call_dec (fun hc hd he => ?_) (fun hc hd he => ?_)) <;> try simp (maxSteps := 1000000) (implicitDefEqProofs := false) (disch := first | rfl | omega | assumption) only [go_sem, hc, he, we_some, mx, mn])

theorem we_less (a b c d : Int) (ha : -8000000 ≤ a ∧ a ≤ 8000000) (hb : -8000000 ≤ b ∧ b ≤ 8000000) (hc : -8000000 ≤ c ∧ c ≤ 8000000) (hd : -8000000 ≤ d ∧ d ≤ 8000000) (H : Heap) : callFL cfg0 prog0 false 114 [.agg [I a, I b], .agg [I c, I d]] H none = some ⟨.ret (.agg [I (a - d), I (b - c)]), H, none⟩ := by
  refine (callFL_eq fn114 rfl (by simp [Tryd.f114])).trans ?_
  simp (maxSteps := 1000000) (implicitDefEqProofs := false) (disch := first | rfl | omega | assumption) only [go_sem, ltT, ltF, leT, leF]

theorem we_more (a b c d : Int) (ha : -8000000 ≤ a ∧ a ≤ 8000000) (hb : -8000000 ≤ b ∧ b ≤ 8000000) (hc : -8000000 ≤ c ∧ c ≤ 8000000) (hd : -8000000 ≤ d ∧ d ≤ 8000000) (H : Heap) : callFL cfg0 prog0 false 115 [.agg [I a, I b], .agg [I c, I d]] H none = some ⟨.ret (.agg [I (a + c), I (b + d)]), H, none⟩ := by
  refine (callFL_eq fn115 rfl (by simp [Tryd.f115])).trans ?_
  simp (maxSteps := 1000000) (implicitDefEqProofs := false) (disch := first | rfl | omega | assumption) only [go_sem, ltT, ltF, leT, leF]

/-! ### Events, as the package looks at them -/

/-- What befell: something was taken off, or read, or nothing. -/
inductive EvZ where
  | takes (lo hi : Int)
  | read (lo hi : Int)
  | nothing

def EvZ.av : EvZ → AV
  | .takes lo hi => .iface 143 (.agg [I lo, I hi])
  | .read lo hi => .iface 147 (.agg [I lo, I hi])
  | .nothing => .iface 145 (.agg [])

def EvZ.aft (e : EvZ) (p : Int × Int) : Int × Int := match e with
  | .takes lo hi => (p.1 - hi, p.2 - lo)
  | .read lo hi => bothP p (lo, hi)
  | .nothing => p

def EvZ.bef (e : EvZ) (p : Int × Int) : Int × Int := match e with
  | .takes lo hi => (p.1 + lo, p.2 + hi)
  | .read lo hi => bothP p (lo, hi)
  | .nothing => p

theorem ev_t_aft (a b c d : Int) (ha : -8000000 ≤ a ∧ a ≤ 8000000) (hb : -8000000 ≤ b ∧ b ≤ 8000000) (hc : -8000000 ≤ c ∧ c ≤ 8000000) (hd : -8000000 ≤ d ∧ d ≤ 8000000) (H : Heap) : callFL cfg0 prog0 false 112 [.agg [I c, I d], .agg [I a, I b]] H none = some ⟨.ret (.agg [I (a - d), I (b - c)]), H, none⟩ := by
  have h := fun G => we_less a b c d ha hb hc hd G
  refine (callFL_eq fn112 rfl (by simp [Tryd.f112])).trans ?_
  simp (maxSteps := 1000000) (implicitDefEqProofs := false) (disch := first | rfl | omega | assumption) only [go_sem, ltT, ltF, leT, leF, h]

theorem ev_t_bef (a b c d : Int) (ha : -8000000 ≤ a ∧ a ≤ 8000000) (hb : -8000000 ≤ b ∧ b ≤ 8000000) (hc : -8000000 ≤ c ∧ c ≤ 8000000) (hd : -8000000 ≤ d ∧ d ≤ 8000000) (H : Heap) : callFL cfg0 prog0 false 113 [.agg [I c, I d], .agg [I a, I b]] H none = some ⟨.ret (.agg [I (a + c), I (b + d)]), H, none⟩ := by
  have h := fun G => we_more a b c d ha hb hc hd G
  refine (callFL_eq fn113 rfl (by simp [Tryd.f113])).trans ?_
  simp (maxSteps := 1000000) (implicitDefEqProofs := false) (disch := first | rfl | omega | assumption) only [go_sem, ltT, ltF, leT, leF, h]

theorem ev_r_aft (a b c d : Int) (H : Heap) : callFL cfg0 prog0 false 118 [.agg [I c, I d], .agg [I a, I b]] H none = some ⟨.ret (KV (bothP (a, b) (c, d))), H, none⟩ := by
  refine (callFL_eq fn118 rfl (by simp [Tryd.f118])).trans ?_
  simp (maxSteps := 1000000) (implicitDefEqProofs := false) (disch := first | rfl | omega | assumption) only [go_sem, ltT, ltF, leT, leF, we_both]

theorem ev_r_bef (a b c d : Int) (H : Heap) : callFL cfg0 prog0 false 119 [.agg [I c, I d], .agg [I a, I b]] H none = some ⟨.ret (KV (bothP (a, b) (c, d))), H, none⟩ := by
  refine (callFL_eq fn119 rfl (by simp [Tryd.f119])).trans ?_
  simp (maxSteps := 1000000) (implicitDefEqProofs := false) (disch := first | rfl | omega | assumption) only [go_sem, ltT, ltF, leT, leF, we_both]

theorem ev_n_aft (a b : Int) (H : Heap) : callFL cfg0 prog0 false 116 [.agg [], .agg [I a, I b]] H none = some ⟨.ret (.agg [I a, I b]), H, none⟩ := by
  refine (callFL_eq fn116 rfl (by simp [Tryd.f116])).trans ?_
  simp (maxSteps := 1000000) (implicitDefEqProofs := false) (disch := first | rfl | omega | assumption) only [go_sem, ltT, ltF, leT, leF]

theorem ev_n_bef (a b : Int) (H : Heap) : callFL cfg0 prog0 false 117 [.agg [], .agg [I a, I b]] H none = some ⟨.ret (.agg [I a, I b]), H, none⟩ := by
  refine (callFL_eq fn117 rfl (by simp [Tryd.f117])).trans ?_
  simp (maxSteps := 1000000) (implicitDefEqProofs := false) (disch := first | rfl | omega | assumption) only [go_sem, ltT, ltF, leT, leF]

end Go.Ab
/-
  Events and blocks; what is valid; open.
-/
namespace Go.Ab
open Go.Proofs
set_option linter.unusedSimpArgs false
set_option linter.unusedVariables false
set_option maxRecDepth 100000

variable {H : Heap}

theorem SlOk.fA {α : Type} {f : α → AV} {d : α} {sz : Nat} {v : AV} {xs : List α} (h : SlOk H sz v (xs.map f)) :
   (∀ (G : Heap) (te : Ty) (k : Int), te.size = sz → (0 ≤ k ∧ k < xs.length) → idxAddr (H ++ G) te v k = some (elA v k 0)) ∧
   (∀ (te : Ty) (k : Int), te.size = sz → (0 ≤ k ∧ k < xs.length) → idxAddr H te v k = some (elA v k 0)) ∧
   (∀ (G : Heap) (te : Ty) (k : Int) (off : Nat), (0 ≤ k ∧ k < xs.length) → evLoad (H ++ G) te (elA v k off) = readPart (f (xs.getD k.toNat d)).cells off te) ∧
   (∀ (te : Ty) (k : Int) (off : Nat), (0 ≤ k ∧ k < xs.length) → evLoad H te (elA v k off) = readPart (f (xs.getD k.toNat d)).cells off te) ∧
   (∀ (k : Int) (off o : Nat), addOff (elA v k off) o = some (elA v k (off + o))) := by
  have key : ∀ k : Int, (0 ≤ k ∧ k < xs.length) → (xs.map f)[k.toNat]? = some (f (xs.getD k.toNat d)) := by
    intro k hk
    have : k.toNat < xs.length := by omega
    simp [this]
  refine ⟨fun G te k hs hk => ?_, fun te k hs hk => ?_, fun G te k off hk => ?_, fun te k off hk => ?_, fun k off o => addOff_elA h⟩
  · exact (h.at hk.1 (key k hk)).2.2.2.1 G te hs
  · exact (h.at hk.1 (key k hk)).1 te hs
  · rw [(h.at hk.1 (key k hk)).2.2.2.2 G off te]
  · rw [(h.at hk.1 (key k hk)).2.1 off te]

structure Ev where
  k : Int
  u : Int
  lo : Int
  hi : Int

def Ev.av (e : Ev) : AV := .agg [I e.k, I e.u, I e.lo, I e.hi]
def ev0 : Ev := ⟨0, 0, 0, 0⟩

structure Wea where
  llo : Int
  lhi : Int
  ulo : Int
  uhi : Int
  es : List Ev

def Wea.av (w : Wea) (ve : AV) : AV := .agg [I w.llo, I w.lhi, I w.ulo, I w.uhi, ve]
abbrev Wea.ev (w : Wea) (i : Nat) : Ev := w.es.getD i ev0

def Ev.ok (e : Ev) : Bool := if e.k = 0 then wi e.u 0 20 else if e.k = 1 then spB (e.lo, e.hi) (-1000) 1000 else if e.k = 2 then spB (e.lo, e.hi) 0 10 else false

def Wea.good (w : Wea) : Bool := !anyF (fun i => !(w.ev i).ok) 0 w.es.length

/-- A block is valid. -/
def Wea.valid (w : Wea) : Bool := spB (w.llo, w.lhi) 0 300 && (decide (w.lhi - w.llo ≤ 20) && (spB (w.ulo, w.uhi) 0 3 && (decide ((w.es.length : Int) ≤ 8) && w.good)))

theorem we_isEvent (e : Ev) (H : Heap) : callFL cfg0 prog0 false 81 [e.av] H none = some ⟨.ret (.bool e.ok), H, none⟩ := by
  simp only [Ev.av, Ev.ok]
  refine (callFL_eq fn81 rfl (by simp [Tryd.f81])).trans ?_
  by_cases h0 : e.k = 0
  · simp (maxSteps := 1000000) (implicitDefEqProofs := false) (disch := first | rfl | omega | assumption) only [go_sem, ltT, ltF, leT, leF, h0, we_within]
  · have h0' : (e.k == 0) = false := by simpa using h0
    by_cases h1 : e.k = 1
    · simp (maxSteps := 1000000) (implicitDefEqProofs := false) (disch := first | rfl | omega | assumption) only [go_sem, ltT, ltF, leT, leF, h0, h0', h1, we_isSpan]
    · have h1' : (e.k == 1) = false := by simpa using h1
      by_cases h2 : e.k = 2
      · simp (maxSteps := 1000000) (implicitDefEqProofs := false) (disch := first | rfl | omega | assumption) only [go_sem, ltT, ltF, leT, leF, h0, h0', h1, h1', h2, we_isSpan]
      · have h2' : (e.k == 2) = false := by simpa using h2
        simp (maxSteps := 1000000) (implicitDefEqProofs := false) (disch := first | rfl | omega | assumption) only [go_sem, ltT, ltF, leT, leF, h0, h0', h1, h1', h2, h2']

theorem ref_event (e : Ev) (H : Heap) : callFL cfg0 prog0 false 77 [e.av] H none = some ⟨.ret (.bool e.ok), H, none⟩ := by
  simp only [Ev.av, Ev.ok]
  refine (callFL_eq fn77 rfl (by simp [Tryd.f77])).trans ?_
  by_cases h0 : e.k = 0
  · simp (maxSteps := 1000000) (implicitDefEqProofs := false) (disch := first | rfl | omega | assumption) only [go_sem, ltT, ltF, leT, leF, h0, ref_in]
  · have h0' : (e.k == 0) = false := by simpa using h0
    by_cases h1 : e.k = 1
    · simp (maxSteps := 1000000) (implicitDefEqProofs := false) (disch := first | rfl | omega | assumption) only [go_sem, ltT, ltF, leT, leF, h0, h0', h1, ref_span]
    · have h1' : (e.k == 1) = false := by simpa using h1
      by_cases h2 : e.k = 2
      · simp (maxSteps := 1000000) (implicitDefEqProofs := false) (disch := first | rfl | omega | assumption) only [go_sem, ltT, ltF, leT, leF, h0, h0', h1, h1', h2, ref_span]
      · have h2' : (e.k == 2) = false := by simpa using h2
        simp (maxSteps := 1000000) (implicitDefEqProofs := false) (disch := first | rfl | omega | assumption) only [go_sem, ltT, ltF, leT, leF, h0, h0', h1, h1', h2, h2']

theorem we_bad (e : Ev) (H : Heap) : callFL cfg0 prog0 false 80 [e.av] H none = some ⟨.ret (.bool !e.ok), H, none⟩ := by
  have h := fun G => we_isEvent e G
  simp only [Ev.av] at h ⊢
  refine (callFL_eq fn80 rfl (by simp [Tryd.f80])).trans ?_
  simp (maxSteps := 1000000) (implicitDefEqProofs := false) (disch := first | rfl | omega | assumption) only [go_sem, ltT, ltF, leT, leF, h]

/-- The place of the first event that is none. -/
def firstBad (es : List Ev) (j q : Nat) : Int := (findF (fun i => if (es.getD i ev0).ok then none else some (i : Int)) j q).getD (-1)

theorem firstBad_any (es : List Ev) : ∀ (q j : Nat), decide (0 ≤ firstBad es j q) = anyF (fun i => !(es.getD i ev0).ok) j q
  | 0, j => rfl
  | q + 1, j => by
    have ih := firstBad_any es q (j + 1)
    have e : firstBad es j (q + 1) = if (es.getD j ev0).ok then firstBad es (j + 1) q else (j : Int) := by
      simp only [firstBad, findF]
      cases (es.getD j ev0).ok <;> rfl
    rw [e]
    simp only [anyF]
    cases h : (es.getD j ev0).ok
    · simp
    · simpa using ih

theorem idx_loop {es : List Ev} {ve : AV} (h : SlOk H 4 ve (es.map Ev.av)) (hl : es.length ≤ 1000) :
    ∀ (q j : Nat), j + q = es.length → ∀ E : Env, E.get 0 = ve → E.get 1 = .func (.func 80) [] [] → E.get 7 = I es.length → E.get 8 = I j →
    Option.map (finishC H.length) (execL cfg0 prog0 ⟨89, none, false, H.length⟩ (todoAt Tryd.f89 2) ⟨E, [], H, none⟩) = some ⟨.ret (I (firstBad es j q)), H, none⟩ := by
  intro q
  obtain ⟨a1, a2, a3, a4, a5⟩ := h.fA (d := ev0)
  induction q with
  | zero =>
    intro j hj  E g0 g1 g7 g8
    have hk' : ¬ (j : Int) < ((es.length : Nat) : Int) := by omega
    simp only [loopIt, todoPast, todoAt, todoOf, firstReg, ↓reduceIte, Option.some.injEq, Nat.reduceEqDiff, reduceCtorEq, Tryd.f89]
    rw [execL_inLoop]
    simp (maxSteps := 1000000) (implicitDefEqProofs := false) (disch := first | rfl | omega | assumption) only [go_sem, g0, g1, g7, g8, ltT, ltF, leT, leF, hk', firstBad, findF]
  | succ q ih =>
    intro j hj  E g0 g1 g7 g8
    have hk' : (j : Int) < ((es.length : Nat) : Int) := by omega
    have hk2 : j < es.length := by omega
    have hb := fun G => we_bad (es.getD j ev0) G
    have hr : readPart (es.getD j ev0).av.cells 0 ⟨.struct [(0, 3), (1, 3), (2, 23)], 4, 32, some (.agg #[.int .i64 0, .int .i64 0, .int .i64 0, .int .i64 0])⟩ = some (es.getD j ev0).av := rfl
    simp only [firstBad, findF]
    simp only [loopIt, todoPast, todoAt, todoOf, firstReg, ↓reduceIte, Option.some.injEq, Nat.reduceEqDiff, reduceCtorEq, Tryd.f89]
    rw [execL_inLoop]
    rcases Bool.eq_false_or_eq_true (es.getD j ev0).ok with hc | hc
    · simp (maxSteps := 1000000) (implicitDefEqProofs := false) (disch := first | rfl | omega | assumption) only [go_sem, g0, g1, g7, g8, ltT, ltF, leT, leF, hk', a1, a2, a3, a4, hr, hb, hc]
      exact ih (j + 1) (by omega) _ (by exact g0) (by exact g1) (by exact g7) (by rfl)
    · simp (maxSteps := 1000000) (implicitDefEqProofs := false) (disch := first | rfl | omega | assumption) only [go_sem, g0, g1, g7, g8, ltT, ltF, leT, leF, hk', a1, a2, a3, a4, hr, hb, hc]

theorem we_contains {es : List Ev} {ve : AV} (h : SlOk H 4 ve (es.map Ev.av)) (hl : es.length ≤ 1000) : callFL cfg0 prog0 false 79 [ve, .func (.func 80) [] []] H none = some ⟨.ret (.bool (anyF (fun i => !(es.getD i ev0).ok) 0 es.length)), H, none⟩ := by
  have hx : callFL cfg0 prog0 false 89 [ve, .func (.func 80) [] []] H none = some ⟨.ret (I (firstBad es 0 es.length)), H, none⟩ := by
    refine (callFL_eq fn89 rfl (by simp [Tryd.f89])).trans ?_
    simp (maxSteps := 1000000) (implicitDefEqProofs := false) (disch := first | rfl | omega | assumption) only [go_sem, ltT, ltF, leT, leF, h.len]
    exact idx_loop h hl es.length 0 (by omega) _ (by rfl) (by rfl) (by rfl) (by rfl)
  rw [← firstBad_any]
  refine (callFL_eq fn79 rfl (by simp [Tryd.f79])).trans ?_
  simp (maxSteps := 1000000) (implicitDefEqProofs := false) (disch := first | rfl | omega | assumption) only [go_sem, hx]

structure WeaAt (H : Heap) (w : Wea) (ve : AV) : Prop where
  es : SlOk H 4 ve (w.es.map Ev.av)

theorem WeaAt.app {w : Wea} {ve : AV} (h : WeaAt H w ve) (G : Heap) : WeaAt (H ++ G) w ve := ⟨h.es.app G⟩

/-- What open makes. -/
def Wea.made (w : Wea) (n : Nat) (es : List (AV × AV)) : Heap := [.box (w.av (.gsl (n + 1) w.es.length)), .grow 4 (w.es.map Ev.av), .map 88 es, .box (.agg [I w.llo, I w.lhi, I w.ulo, I w.uhi, .gsl (n + 1) w.es.length, .map (n + 2)])]

theorem evz_lt (N : Nat) : ∀ l : List Ev, ltL N (l.map Ev.av) = true
  | [] => rfl
  | _ :: r => by simp only [List.map_cons, ltL, evz_lt N r, Ev.av, AV.lt, Bool.and_self]

theorem evz_ok : ∀ l : List Ev, elemsOk 4 true (l.map Ev.av) = true
  | [] => rfl
  | _ :: r => by simp only [List.map_cons, elemsOk, evz_ok r, Bool.and_true]; rfl

theorem we_open {w : Wea} {ve : AV} (h : WeaAt H w ve) (hl : w.es.length ≤ 1000) (days : Int) (is : Bool) :
    callFL cfg0 prog0 false 42 [w.av ve, I days, .bool is] H none = some (if w.valid then (if days ≤ 10 then (if is then ⟨.ret (.ptr (H.length + 3) 0), H ++ w.made H.length [], none⟩ else ⟨.pan (.iface 117 (I 2)), H, none⟩) else ⟨.pan (.iface 117 (I 3)), H, none⟩) else ⟨.pan (.iface 117 (I 1)), H, none⟩) := by
  have s1 := h.es.scal
  have hc := fun G : Heap => we_contains (h.es.app G) hl
  have hs1 := fun G : Heap => we_isSpan w.llo w.lhi 0 300 G
  have hs2 := fun G : Heap => we_isSpan w.ulo w.uhi 0 3 G
  have he := fun G : Heap => (h.es.app G).elems
  have he2 := evz_lt 0 w.es
  have he3 := evz_ok w.es
  simp only [Wea.av, Wea.made, Wea.valid, Wea.good]
  rcases Bool.eq_false_or_eq_true (spB (w.llo, w.lhi) 0 300) with c1 | c1
  · have b1 := spB_iff.1 c1
    simp only at b1
    by_cases c2 : w.lhi - w.llo ≤ 20
    · rcases Bool.eq_false_or_eq_true (spB (w.ulo, w.uhi) 0 3) with c3 | c3
      · by_cases c4 : (w.es.length : Int) ≤ 8
        · rcases Bool.eq_false_or_eq_true (anyF (fun i => !(w.es.getD i ev0).ok) 0 w.es.length) with c5 | c5
          · refine (callFL_eq fn42 rfl (by simp [Tryd.f42])).trans ?_
            simp (maxSteps := 1000000) (implicitDefEqProofs := false) (disch := first | rfl | omega | assumption) only [go_sem, ltT, ltF, leT, leF, s1, hs1, hs2, hc, c1, c2, c3, c4, c5, we_ask, h.es.len]
          · by_cases c6 : days ≤ 10
            · cases is
              · refine (callFL_eq fn42 rfl (by simp [Tryd.f42])).trans ?_
                simp (maxSteps := 1000000) (implicitDefEqProofs := false) (disch := first | rfl | omega | assumption) only [go_sem, ltT, ltF, leT, leF, s1, hs1, hs2, hc, c1, c2, c3, c4, c5, c6, we_ask, h.es.len]
              · refine (callFL_eq fn42 rfl (by simp [Tryd.f42])).trans ?_
                simp (maxSteps := 1000000) (implicitDefEqProofs := false) (disch := first | rfl | omega | assumption) only [go_sem, ltT, ltF, leT, leF, s1, hs1, hs2, hc, c1, c2, c3, c4, c5, c6, we_ask, h.es.len, evCopy, he, he2, he3, List.length_replicate]
            · refine (callFL_eq fn42 rfl (by simp [Tryd.f42])).trans ?_
              simp (maxSteps := 1000000) (implicitDefEqProofs := false) (disch := first | rfl | omega | assumption) only [go_sem, ltT, ltF, leT, leF, s1, hs1, hs2, hc, c1, c2, c3, c4, c5, c6, we_ask, h.es.len]
        · refine (callFL_eq fn42 rfl (by simp [Tryd.f42])).trans ?_
          simp (maxSteps := 1000000) (implicitDefEqProofs := false) (disch := first | rfl | omega | assumption) only [go_sem, ltT, ltF, leT, leF, s1, hs1, hs2, hc, c1, c2, c3, c4, we_ask, h.es.len]
      · refine (callFL_eq fn42 rfl (by simp [Tryd.f42])).trans ?_
        simp (maxSteps := 1000000) (implicitDefEqProofs := false) (disch := first | rfl | omega | assumption) only [go_sem, ltT, ltF, leT, leF, s1, hs1, hs2, hc, c1, c2, c3, we_ask, h.es.len]
    · refine (callFL_eq fn42 rfl (by simp [Tryd.f42])).trans ?_
      simp (maxSteps := 1000000) (implicitDefEqProofs := false) (disch := first | rfl | omega | assumption) only [go_sem, ltT, ltF, leT, leF, s1, hs1, hs2, hc, c1, c2, we_ask, h.es.len]
  · refine (callFL_eq fn42 rfl (by simp [Tryd.f42])).trans ?_
    simp (maxSteps := 1000000) (implicitDefEqProofs := false) (disch := first | rfl | omega | assumption) only [go_sem, ltT, ltF, leT, leF, s1, hs1, hs2, hc, c1, we_ask, h.es.len]

end Go.Ab
