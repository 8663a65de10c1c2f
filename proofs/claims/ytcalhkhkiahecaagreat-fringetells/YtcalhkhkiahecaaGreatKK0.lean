/-
  slices.Sort and slices.Compact over []int, by the library's own contracts, as the evaluator takes them.
-/
import Derived.Test.YtcalhkhkiahecaaGreatT0
import Derived.Test.YtcalhkhkiahecaaGreatA5
import Derived.Shelf.Sort.AssemblyIn
import Derived.Sort.EveryDepth
import Derived.Shelf.Slices.CompactI
import Derived.Test.YtcalhkhkiahecaaGreatD9
import Derived.Test.YtcalhkhkiahecaaGreatE2
import Derived.ProofKit
import Derived.Carry
import Derived.WideShapes
import Derived.OpenShut
namespace Go.Ab
open Go.Proofs Go.Sort
set_option linter.unusedSimpArgs false
set_option linter.unusedVariables false
set_option maxRecDepth 100000


def laysS_ren : Go.Shelf.Ren := ⟨fun | 125 => 90 | 128 => 107 | 129 => 108 | 189 => 60 | 215 => 115 | 216 => 104 | 257 => 89 | 294 => 98 | 295 => 99 | 296 => 100 | 297 => 101 | 298 => 102 | 299 => 103 | 300 => 105 | 301 => 106 | 328 => 110 | 329 => 111 | 330 => 112 | 331 => 113 | 332 => 114 | 343 => 118 | n => n, fun | 0 => 0 | 3 => 3 | 4 => 4 | 5 => 5 | 9 => 9 | 28 => 22 | 46 => 70 | 51 => 112 | 53 => 114 | 131 => 127 | 182 => 122 | 183 => 123 | 218 => 130 | 222 => 134 | 228 => 138 | 229 => 139 | n => n, fun n => n⟩

theorem laysS : Lays.n189 prog0 laysS_ren where
  mixed := by kernel_rfl
  f125 := Go.Proofs.Tryz.func90.trans (congrArg some (by kernel_rfl))
  f128 := Go.Proofs.Tryz.func107.trans (congrArg some (by kernel_rfl))
  f129 := Go.Proofs.Tryz.func108.trans (congrArg some (by kernel_rfl))
  f189 := Go.Proofs.Tryz.func60.trans (congrArg some (by kernel_rfl))
  f215 := Go.Proofs.Tryz.func115.trans (congrArg some (by kernel_rfl))
  f216 := Go.Proofs.Tryz.func104.trans (congrArg some (by kernel_rfl))
  f257 := Go.Proofs.Tryz.func89.trans (congrArg some (by kernel_rfl))
  f294 := Go.Proofs.Tryz.func98.trans (congrArg some (by kernel_rfl))
  f295 := Go.Proofs.Tryz.func99.trans (congrArg some (by kernel_rfl))
  f296 := Go.Proofs.Tryz.func100.trans (congrArg some (by kernel_rfl))
  f297 := Go.Proofs.Tryz.func101.trans (congrArg some (by kernel_rfl))
  f298 := Go.Proofs.Tryz.func102.trans (congrArg some (by kernel_rfl))
  f299 := Go.Proofs.Tryz.func103.trans (congrArg some (by kernel_rfl))
  f300 := Go.Proofs.Tryz.func105.trans (congrArg some (by kernel_rfl))
  f301 := Go.Proofs.Tryz.func106.trans (congrArg some (by kernel_rfl))
  f328 := Go.Proofs.Tryz.func110.trans (congrArg some (by kernel_rfl))
  f329 := Go.Proofs.Tryz.func111.trans (congrArg some (by kernel_rfl))
  f330 := Go.Proofs.Tryz.func112.trans (congrArg some (by kernel_rfl))
  f331 := Go.Proofs.Tryz.func113.trans (congrArg some (by kernel_rfl))
  f332 := Go.Proofs.Tryz.func114.trans (congrArg some (by kernel_rfl))
  f343 := Go.Proofs.Tryz.func118.trans (congrArg some (by kernel_rfl))
  t0 := Go.Proofs.Tryz.underlying0
  a0 := Go.Proofs.Tryz.isAgg0
  z0 := Go.Proofs.Tryz.sizeOf0
  v0 := Go.Proofs.Tryz.zeroValue0
  t3 := Go.Proofs.Tryz.underlying3
  a3 := Go.Proofs.Tryz.isAgg3
  z3 := Go.Proofs.Tryz.sizeOf3
  v3 := Go.Proofs.Tryz.zeroValue3
  t4 := Go.Proofs.Tryz.underlying4
  a4 := Go.Proofs.Tryz.isAgg4
  z4 := Go.Proofs.Tryz.sizeOf4
  v4 := Go.Proofs.Tryz.zeroValue4
  t5 := Go.Proofs.Tryz.underlying5
  a5 := Go.Proofs.Tryz.isAgg5
  z5 := Go.Proofs.Tryz.sizeOf5
  v5 := Go.Proofs.Tryz.zeroValue5
  t9 := Go.Proofs.Tryz.underlying9
  a9 := Go.Proofs.Tryz.isAgg9
  z9 := Go.Proofs.Tryz.sizeOf9
  v9 := Go.Proofs.Tryz.zeroValue9
  t28 := Go.Proofs.Tryz.underlying22
  a28 := Go.Proofs.Tryz.isAgg22
  z28 := Go.Proofs.Tryz.sizeOf22
  v28 := Go.Proofs.Tryz.zeroValue22
  t46 := Go.Proofs.Tryz.underlying70
  a46 := Go.Proofs.Tryz.isAgg70
  z46 := Go.Proofs.Tryz.sizeOf70
  v46 := Go.Proofs.Tryz.zeroValue70
  t51 := Go.Proofs.Tryz.underlying112
  a51 := Go.Proofs.Tryz.isAgg112
  z51 := Go.Proofs.Tryz.sizeOf112
  v51 := Go.Proofs.Tryz.zeroValue112
  t53 := Go.Proofs.Tryz.underlying114
  a53 := Go.Proofs.Tryz.isAgg114
  z53 := Go.Proofs.Tryz.sizeOf114
  v53 := Go.Proofs.Tryz.zeroValue114
  t131 := Go.Proofs.Tryz.underlying127
  a131 := Go.Proofs.Tryz.isAgg127
  z131 := Go.Proofs.Tryz.sizeOf127
  v131 := Go.Proofs.Tryz.zeroValue127
  t182 := Go.Proofs.Tryz.underlying122
  a182 := Go.Proofs.Tryz.isAgg122
  z182 := Go.Proofs.Tryz.sizeOf122
  v182 := Go.Proofs.Tryz.zeroValue122
  t183 := Go.Proofs.Tryz.underlying123
  a183 := Go.Proofs.Tryz.isAgg123
  z183 := Go.Proofs.Tryz.sizeOf123
  v183 := Go.Proofs.Tryz.zeroValue123
  t218 := Go.Proofs.Tryz.underlying130
  a218 := Go.Proofs.Tryz.isAgg130
  z218 := Go.Proofs.Tryz.sizeOf130
  v218 := Go.Proofs.Tryz.zeroValue130
  t222 := Go.Proofs.Tryz.underlying134
  a222 := Go.Proofs.Tryz.isAgg134
  z222 := Go.Proofs.Tryz.sizeOf134
  v222 := Go.Proofs.Tryz.zeroValue134
  t228 := Go.Proofs.Tryz.underlying138
  a228 := Go.Proofs.Tryz.isAgg138
  z228 := Go.Proofs.Tryz.sizeOf138
  v228 := Go.Proofs.Tryz.zeroValue138
  t229 := Go.Proofs.Tryz.underlying139
  a229 := Go.Proofs.Tryz.isAgg139
  z229 := Go.Proofs.Tryz.sizeOf139
  v229 := Go.Proofs.Tryz.zeroValue139

def laysC_ren : Go.Shelf.Ren := ⟨fun | 20 => 61 | n => n, fun | 0 => 0 | 3 => 3 | 4 => 4 | 22 => 22 | n => n, fun n => n⟩

theorem laysC : Lays2.n20 prog0 laysC_ren where
  mixed := by kernel_rfl
  f20 := Go.Proofs.Tryz.func61.trans (congrArg some (by kernel_rfl))
  t0 := Go.Proofs.Tryz.underlying0
  a0 := Go.Proofs.Tryz.isAgg0
  z0 := Go.Proofs.Tryz.sizeOf0
  v0 := Go.Proofs.Tryz.zeroValue0
  t3 := Go.Proofs.Tryz.underlying3
  a3 := Go.Proofs.Tryz.isAgg3
  z3 := Go.Proofs.Tryz.sizeOf3
  v3 := Go.Proofs.Tryz.zeroValue3
  t4 := Go.Proofs.Tryz.underlying4
  a4 := Go.Proofs.Tryz.isAgg4
  z4 := Go.Proofs.Tryz.sizeOf4
  v4 := Go.Proofs.Tryz.zeroValue4
  t22 := Go.Proofs.Tryz.underlying22
  a22 := Go.Proofs.Tryz.isAgg22
  z22 := Go.Proofs.Tryz.sizeOf22
  v22 := Go.Proofs.Tryz.zeroValue22
  i3 := by kernel_rfl


theorem holds_of {w : World} {b : Nat} {zs : List Int} {rest : List Value} {T : TypeId} (h : w.heap[b]? = some (.cells (zs.map (Value.int .i64) ++ rest).toArray T (0, 0))) : Holds (Value.int .i64) w b 0 zs.toArray := by
  intro j hj
  have hj' : j < zs.length := by simpa using hj
  constructor
  · simp only [World.cell?, h, Nat.zero_add]
    simp [hj', List.getElem?_append_left]
  · simp [World.frozen?, h]

theorem put_of {w : World} {n b : Nat} {zs ys : List Int} {rest : List Value} {T : TypeId} (h : w.heap[b]? = some (.cells (zs.map (Value.int .i64) ++ rest).toArray T (0, 0))) (hl : ys.length = zs.length) :
    ((putRow (Value.int .i64) (Sort.ahead w n) b 0 ys.toArray).os = w.os ∧ (putRow (Value.int .i64) (Sort.ahead w n) b 0 ys.toArray).tape = w.tape ∧ (putRow (Value.int .i64) (Sort.ahead w n) b 0 ys.toArray).output = w.output) ∧
    (putRow (Value.int .i64) (Sort.ahead w n) b 0 ys.toArray).heap.size = w.heap.size ∧ (∀ k, k ≠ b → (putRow (Value.int .i64) (Sort.ahead w n) b 0 ys.toArray).heap[k]? = w.heap[k]?) ∧
    (putRow (Value.int .i64) (Sort.ahead w n) b 0 ys.toArray).heap[b]? = some (.cells (ys.map (Value.int .i64) ++ rest).toArray T (0, 0)) := by
  refine ⟨⟨rfl, rfl, rfl⟩, by simp [putRow, mapBlock, Sort.ahead], fun k hk => ?_, ?_⟩
  · simp only [putRow, mapBlock, Sort.ahead, Array.getElem?_modify, if_neg (fun e : b = k => hk e.symm)]
  · simp only [putRow, mapBlock, Sort.ahead, Array.getElem?_modify, if_true, h, Option.map_some, onCells]
    congr 2
    apply Array.toList_inj.1
    apply List.ext_getElem?
    intro k
    simp only [putCells, Array.toList_mapIdx, List.getElem?_mapIdx, List.size_toArray, Nat.zero_add, Nat.zero_le, true_and, Nat.sub_zero]
    by_cases hk : k < ys.length
    · have hk2 : k < zs.length := by omega
      simp [hk, hk2, List.getElem?_append_left]
    · have hk2 : ¬ k < zs.length := by omega
      simp only [hk, if_false]
      rw [List.getElem?_append_right (by simp; omega), List.getElem?_append_right (by simp; omega), List.length_map, List.length_map, hl]
      simp

theorem sorts0 : SortsI prog0 60 := by
  refine ⟨⟨_, Go.Proofs.Tryz.func60, by decide, rfl⟩, fun b cap zs rest T w hw hlen cs => ?_⟩
  have hb : b < w.heap.size := (Array.getElem?_eq_some_iff.1 hw).1
  obtain ⟨e, w', fr, ⟨rfl, n, os, rfl⟩, h1, h2, h3, h4, h5, fn, h6, h7⟩ := (calls_of_every_depth fun D => AnyS.slices_Sort_int_in laysS D b 0 cap zs w (holds_of hw) hb (by omega)) cs
  obtain ⟨p1, p2, p3, p4⟩ := put_of (n := n) (ys := zs.mergeSort fun x y => decide (x ≤ y)) hw (List.length_mergeSort ..)
  rw [h2] at h6
  exact ⟨_, putRow (Value.int .i64) (Sort.ahead w n) b 0 (zs.mergeSort fun x y => decide (x ≤ y)).toArray, os, fr, fn, h1, ⟨h3, h4, h5, h2⟩, ⟨h6, h7⟩, rfl, p1, p2, p3, p4⟩

/-! ### What Compact keeps -/

theorem dedup_snoc : ∀ (l : List Int) (z : Int), dedupI (l ++ [z]) = if l.getLast? = some z then dedupI l else dedupI l ++ [z]
  | [], z => by simp [dedupI]
  | [x], z => by
    simp only [List.cons_append, List.nil_append, dedupI, List.getLast?_singleton, Option.some.injEq]
    split
    · rename_i h; rw [h]
    · rfl
  | x :: y :: r, z => by
    have ih := dedup_snoc (y :: r) z
    simp only [List.cons_append] at ih ⊢
    simp only [dedupI, ih, List.getLast?_cons_cons]
    split <;> split <;> simp

theorem compact_dedup (zs : List Int) : Lib.compact zs = dedupI zs := by
  have key : ∀ m, m ≤ zs.length → Lib.compactUpTo zs.toArray m = dedupI (zs.take m) := by
    intro m
    induction m with
    | zero => intro _; simp [Lib.compactUpTo, dedupI]
    | succ m ih =>
      intro h
      have hm : m < zs.length := by omega
      have e1 : zs.toArray[m]! = zs[m] := by simp [hm]
      rw [Lib.compactUpTo_succ, ih (by omega), List.take_succ_eq_append_getElem hm, dedup_snoc, e1]
      cases m with
      | zero => simp [Lib.keeps, dedupI]
      | succ k =>
        have hk : k < zs.length := by omega
        have e2 : zs.toArray[k]! = zs[k] := by simp [hk]
        have e3 : (zs.take (k + 1)).getLast? = some zs[k] := by
          rw [List.take_succ_eq_append_getElem hk, List.getLast?_concat]
        simp only [Lib.keeps, e1, Nat.add_sub_cancel, e2, e3, Option.some.injEq]
        by_cases he : zs[k + 1] = zs[k]
        · simp [he]
        · have : ¬ zs[k] = zs[k + 1] := fun h => he h.symm
          simp [he, this]
  have := key zs.length (Nat.le_refl _)
  rw [List.take_of_length_le (Nat.le_refl _)] at this
  exact this

theorem dedup_len : ∀ zs : List Int, (dedupI zs).length ≤ zs.length
  | [] => Nat.le_refl _
  | [_] => Nat.le_refl _
  | x :: y :: r => by
    have := dedup_len (y :: r)
    simp only [dedupI]
    split <;> simp only [List.length_cons] at this ⊢ <;> omega

theorem compacts0 : CompactsI prog0 61 := by
  refine ⟨⟨_, Go.Proofs.Tryz.func61, by decide, rfl⟩, fun b cap zs rest T w hw hlen hcap cs => ?_⟩
  have hb : b < w.heap.size := (Array.getElem?_eq_some_iff.1 hw).1
  obtain ⟨e, w', fr, ⟨rfl, n, rfl⟩, h1, h2, h3, h4, h5, fn, h6, h7⟩ := (Any.slices_Compact_int laysC b 0 cap zs w (holds_of hw) (by omega) hcap) cs
  rw [compact_dedup] at h7 h1
  have hd := dedup_len zs
  obtain ⟨p1, p2, p3, p4⟩ := put_of (n := n) (ys := dedupI zs ++ List.replicate (zs.length - (dedupI zs).length) 0) hw (by simp; omega)
  rw [h2] at h6
  refine ⟨_, fr, fn, h1, ⟨h3, h4, h5, h2⟩, ⟨h6, h7⟩, p1, p2, p3, (List.replicate (zs.length - (dedupI zs).length) (0 : Int)).map (Value.int .i64) ++ rest, by simp; omega, ?_⟩
  rw [p4]
  simp

end Go.Ab
/-
  The tables of the evaluator are the program's: row by row.
-/
namespace Go.Ab
set_option linter.unusedSimpArgs false
set_option linter.unusedVariables false

theorem getAt_mem {α : Type} : ∀ {l : List (Nat × α)} {k : Nat} {y : α}, getAt l k = some y → (k, y) ∈ l
  | (i, x) :: r, k, y, h => by
    simp only [getAt] at h
    by_cases e : i = k
    · simp only [e, if_pos, Option.some.injEq] at h; subst e; subst h; exact List.mem_cons_self ..
    · rw [if_neg e] at h; exact List.mem_cons_of_mem _ (getAt_mem h)

theorem tyr1 : tyOf prog0 1 = getAt tyL 1 := by kernel_rfl
theorem tyr2 : tyOf prog0 2 = getAt tyL 2 := by kernel_rfl
theorem tyr3 : tyOf prog0 3 = getAt tyL 3 := by kernel_rfl
theorem tyr4 : tyOf prog0 4 = getAt tyL 4 := by kernel_rfl
theorem tyr5 : tyOf prog0 5 = getAt tyL 5 := by kernel_rfl
theorem tyr6 : tyOf prog0 6 = getAt tyL 6 := by kernel_rfl
theorem tyr8 : tyOf prog0 8 = getAt tyL 8 := by kernel_rfl
theorem tyr12 : tyOf prog0 12 = getAt tyL 12 := by kernel_rfl
theorem tyr15 : tyOf prog0 15 = getAt tyL 15 := by kernel_rfl
theorem tyr16 : tyOf prog0 16 = getAt tyL 16 := by kernel_rfl
theorem tyr17 : tyOf prog0 17 = getAt tyL 17 := by kernel_rfl
theorem tyr19 : tyOf prog0 19 = getAt tyL 19 := by kernel_rfl
theorem tyr20 : tyOf prog0 20 = getAt tyL 20 := by kernel_rfl
theorem tyr22 : tyOf prog0 22 = getAt tyL 22 := by kernel_rfl
theorem tyr24 : tyOf prog0 24 = getAt tyL 24 := by kernel_rfl
theorem tyr25 : tyOf prog0 25 = getAt tyL 25 := by kernel_rfl
theorem tyr27 : tyOf prog0 27 = getAt tyL 27 := by kernel_rfl
theorem tyr30 : tyOf prog0 30 = getAt tyL 30 := by kernel_rfl
theorem tyr33 : tyOf prog0 33 = getAt tyL 33 := by kernel_rfl
theorem tyr47 : tyOf prog0 47 = getAt tyL 47 := by kernel_rfl
theorem tyr51 : tyOf prog0 51 = getAt tyL 51 := by kernel_rfl
theorem tyr53 : tyOf prog0 53 = getAt tyL 53 := by kernel_rfl
theorem tyr54 : tyOf prog0 54 = getAt tyL 54 := by kernel_rfl
theorem tyr56 : tyOf prog0 56 = getAt tyL 56 := by kernel_rfl
theorem tyr58 : tyOf prog0 58 = getAt tyL 58 := by kernel_rfl
theorem tyr59 : tyOf prog0 59 = getAt tyL 59 := by kernel_rfl
theorem tyr61 : tyOf prog0 61 = getAt tyL 61 := by kernel_rfl
theorem tyr67 : tyOf prog0 67 = getAt tyL 67 := by kernel_rfl
theorem tyr68 : tyOf prog0 68 = getAt tyL 68 := by kernel_rfl
theorem tyr70 : tyOf prog0 70 = getAt tyL 70 := by kernel_rfl
theorem tyr74 : tyOf prog0 74 = getAt tyL 74 := by kernel_rfl
theorem tyr75 : tyOf prog0 75 = getAt tyL 75 := by kernel_rfl
theorem tyr81 : tyOf prog0 81 = getAt tyL 81 := by kernel_rfl
theorem tyr83 : tyOf prog0 83 = getAt tyL 83 := by kernel_rfl
theorem tyr88 : tyOf prog0 88 = getAt tyL 88 := by kernel_rfl
theorem tyr90 : tyOf prog0 90 = getAt tyL 90 := by kernel_rfl
theorem tyr92 : tyOf prog0 92 = getAt tyL 92 := by kernel_rfl
theorem tyr98 : tyOf prog0 98 = getAt tyL 98 := by kernel_rfl
theorem tyr102 : tyOf prog0 102 = getAt tyL 102 := by kernel_rfl
theorem tyr105 : tyOf prog0 105 = getAt tyL 105 := by kernel_rfl
theorem tyr107 : tyOf prog0 107 = getAt tyL 107 := by kernel_rfl
theorem tyr110 : tyOf prog0 110 = getAt tyL 110 := by kernel_rfl
theorem tyr112 : tyOf prog0 112 = getAt tyL 112 := by kernel_rfl
theorem tyr114 : tyOf prog0 114 = getAt tyL 114 := by kernel_rfl
theorem tyr118 : tyOf prog0 118 = getAt tyL 118 := by kernel_rfl
theorem tyr120 : tyOf prog0 120 = getAt tyL 120 := by kernel_rfl
theorem tyr149 : tyOf prog0 149 = getAt tyL 149 := by kernel_rfl

theorem ty_rows : ∀ k ∈ [1, 2, 3, 4, 5, 6, 8, 12, 15, 16, 17, 19, 20, 22, 24, 25, 27, 30, 33, 47, 51, 53, 54, 56, 58, 59, 61, 67, 68, 70, 74, 75, 81, 83, 88, 90, 92, 98, 102, 105, 107, 110, 112, 114, 118, 120, 149], tyOf prog0 k = getAt tyL k := by
  simp only [List.forall_mem_cons]
  exact ⟨tyr1, tyr2, tyr3, tyr4, tyr5, tyr6, tyr8, tyr12, tyr15, tyr16, tyr17, tyr19, tyr20, tyr22, tyr24, tyr25, tyr27, tyr30, tyr33, tyr47, tyr51, tyr53, tyr54, tyr56, tyr58, tyr59, tyr61, tyr67, tyr68, tyr70, tyr74, tyr75, tyr81, tyr83, tyr88, tyr90, tyr92, tyr98, tyr102, tyr105, tyr107, tyr110, tyr112, tyr114, tyr118, tyr120, tyr149, List.forall_mem_nil _⟩

theorem eqr2 : ∀ st ks, getAt eqL 2 = some (st, ks) → eqCells prog0 8 2 = some ks ∧ isStr prog0 2 = st ∧ prog0.eqGuardType prog0.depth 2 = false := fun _ _ h => by
  injection h with h; injection h with h1 h2; subst h1; subst h2
  exact ⟨by kernel_rfl, by kernel_rfl, by kernel_rfl⟩
theorem eqr3 : ∀ st ks, getAt eqL 3 = some (st, ks) → eqCells prog0 8 3 = some ks ∧ isStr prog0 3 = st ∧ prog0.eqGuardType prog0.depth 3 = false := fun _ _ h => by
  injection h with h; injection h with h1 h2; subst h1; subst h2
  exact ⟨by kernel_rfl, by kernel_rfl, by kernel_rfl⟩
theorem eqr4 : ∀ st ks, getAt eqL 4 = some (st, ks) → eqCells prog0 8 4 = some ks ∧ isStr prog0 4 = st ∧ prog0.eqGuardType prog0.depth 4 = false := fun _ _ h => by
  injection h with h; injection h with h1 h2; subst h1; subst h2
  exact ⟨by kernel_rfl, by kernel_rfl, by kernel_rfl⟩
theorem eqr5 : ∀ st ks, getAt eqL 5 = some (st, ks) → eqCells prog0 8 5 = some ks ∧ isStr prog0 5 = st ∧ prog0.eqGuardType prog0.depth 5 = false := fun _ _ h => by
  injection h with h; injection h with h1 h2; subst h1; subst h2
  exact ⟨by kernel_rfl, by kernel_rfl, by kernel_rfl⟩
theorem eqr6 : ∀ st ks, getAt eqL 6 = some (st, ks) → eqCells prog0 8 6 = some ks ∧ isStr prog0 6 = st ∧ prog0.eqGuardType prog0.depth 6 = false := fun _ _ h => by
  injection h with h; injection h with h1 h2; subst h1; subst h2
  exact ⟨by kernel_rfl, by kernel_rfl, by kernel_rfl⟩
theorem eqr8 : ∀ st ks, getAt eqL 8 = some (st, ks) → eqCells prog0 8 8 = some ks ∧ isStr prog0 8 = st ∧ prog0.eqGuardType prog0.depth 8 = false := fun _ _ h => by
  injection h with h; injection h with h1 h2; subst h1; subst h2
  exact ⟨by kernel_rfl, by kernel_rfl, by kernel_rfl⟩
theorem eqr12 : ∀ st ks, getAt eqL 12 = some (st, ks) → eqCells prog0 8 12 = some ks ∧ isStr prog0 12 = st ∧ prog0.eqGuardType prog0.depth 12 = false := fun _ _ h => by
  injection h with h; injection h with h1 h2; subst h1; subst h2
  exact ⟨by kernel_rfl, by kernel_rfl, by kernel_rfl⟩
theorem eqr24 : ∀ st ks, getAt eqL 24 = some (st, ks) → eqCells prog0 8 24 = some ks ∧ isStr prog0 24 = st ∧ prog0.eqGuardType prog0.depth 24 = false := fun _ _ h => by
  injection h with h; injection h with h1 h2; subst h1; subst h2
  exact ⟨by kernel_rfl, by kernel_rfl, by kernel_rfl⟩
theorem eqr30 : ∀ st ks, getAt eqL 30 = some (st, ks) → eqCells prog0 8 30 = some ks ∧ isStr prog0 30 = st ∧ prog0.eqGuardType prog0.depth 30 = false := fun _ _ h => by
  injection h with h; injection h with h1 h2; subst h1; subst h2
  exact ⟨by kernel_rfl, by kernel_rfl, by kernel_rfl⟩
theorem eqr47 : ∀ st ks, getAt eqL 47 = some (st, ks) → eqCells prog0 8 47 = some ks ∧ isStr prog0 47 = st ∧ prog0.eqGuardType prog0.depth 47 = false := fun _ _ h => by
  injection h with h; injection h with h1 h2; subst h1; subst h2
  exact ⟨by kernel_rfl, by kernel_rfl, by kernel_rfl⟩
theorem eqr53 : ∀ st ks, getAt eqL 53 = some (st, ks) → eqCells prog0 8 53 = some ks ∧ isStr prog0 53 = st ∧ prog0.eqGuardType prog0.depth 53 = false := fun _ _ h => by
  injection h with h; injection h with h1 h2; subst h1; subst h2
  exact ⟨by kernel_rfl, by kernel_rfl, by kernel_rfl⟩
theorem eqr54 : ∀ st ks, getAt eqL 54 = some (st, ks) → eqCells prog0 8 54 = some ks ∧ isStr prog0 54 = st ∧ prog0.eqGuardType prog0.depth 54 = false := fun _ _ h => by
  injection h with h; injection h with h1 h2; subst h1; subst h2
  exact ⟨by kernel_rfl, by kernel_rfl, by kernel_rfl⟩
theorem eqr70 : ∀ st ks, getAt eqL 70 = some (st, ks) → eqCells prog0 8 70 = some ks ∧ isStr prog0 70 = st ∧ prog0.eqGuardType prog0.depth 70 = false := fun _ _ h => by
  injection h with h; injection h with h1 h2; subst h1; subst h2
  exact ⟨by kernel_rfl, by kernel_rfl, by kernel_rfl⟩
theorem eqr83 : ∀ st ks, getAt eqL 83 = some (st, ks) → eqCells prog0 8 83 = some ks ∧ isStr prog0 83 = st ∧ prog0.eqGuardType prog0.depth 83 = false := fun _ _ h => by
  injection h with h; injection h with h1 h2; subst h1; subst h2
  exact ⟨by kernel_rfl, by kernel_rfl, by kernel_rfl⟩
theorem eqr98 : ∀ st ks, getAt eqL 98 = some (st, ks) → eqCells prog0 8 98 = some ks ∧ isStr prog0 98 = st ∧ prog0.eqGuardType prog0.depth 98 = false := fun _ _ h => by
  injection h with h; injection h with h1 h2; subst h1; subst h2
  exact ⟨by kernel_rfl, by kernel_rfl, by kernel_rfl⟩
theorem eqr112 : ∀ st ks, getAt eqL 112 = some (st, ks) → eqCells prog0 8 112 = some ks ∧ isStr prog0 112 = st ∧ prog0.eqGuardType prog0.depth 112 = false := fun _ _ h => by
  injection h with h; injection h with h1 h2; subst h1; subst h2
  exact ⟨by kernel_rfl, by kernel_rfl, by kernel_rfl⟩
theorem eqr114 : ∀ st ks, getAt eqL 114 = some (st, ks) → eqCells prog0 8 114 = some ks ∧ isStr prog0 114 = st ∧ prog0.eqGuardType prog0.depth 114 = false := fun _ _ h => by
  injection h with h; injection h with h1 h2; subst h1; subst h2
  exact ⟨by kernel_rfl, by kernel_rfl, by kernel_rfl⟩
theorem eqr118 : ∀ st ks, getAt eqL 118 = some (st, ks) → eqCells prog0 8 118 = some ks ∧ isStr prog0 118 = st ∧ prog0.eqGuardType prog0.depth 118 = false := fun _ _ h => by
  injection h with h; injection h with h1 h2; subst h1; subst h2
  exact ⟨by kernel_rfl, by kernel_rfl, by kernel_rfl⟩
theorem eqr120 : ∀ st ks, getAt eqL 120 = some (st, ks) → eqCells prog0 8 120 = some ks ∧ isStr prog0 120 = st ∧ prog0.eqGuardType prog0.depth 120 = false := fun _ _ h => by
  injection h with h; injection h with h1 h2; subst h1; subst h2
  exact ⟨by kernel_rfl, by kernel_rfl, by kernel_rfl⟩
theorem eqr149 : ∀ st ks, getAt eqL 149 = some (st, ks) → eqCells prog0 8 149 = some ks ∧ isStr prog0 149 = st ∧ prog0.eqGuardType prog0.depth 149 = false := fun _ _ h => by
  injection h with h; injection h with h1 h2; subst h1; subst h2
  exact ⟨by kernel_rfl, by kernel_rfl, by kernel_rfl⟩

theorem eq_rows : ∀ k ∈ [2, 3, 4, 5, 6, 8, 12, 24, 30, 47, 53, 54, 70, 83, 98, 112, 114, 118, 120, 149], ∀ st ks, getAt eqL k = some (st, ks) → eqCells prog0 8 k = some ks ∧ isStr prog0 k = st ∧ prog0.eqGuardType prog0.depth k = false := by
  simp only [List.forall_mem_cons]
  exact ⟨eqr2, eqr3, eqr4, eqr5, eqr6, eqr8, eqr12, eqr24, eqr30, eqr47, eqr53, eqr54, eqr70, eqr83, eqr98, eqr112, eqr114, eqr118, eqr120, eqr149, List.forall_mem_nil _⟩

set_option maxRecDepth 100000 in
theorem fn_rows : ∀ x ∈ fnL, prog0.funcs[x.1]? = some x.2 := by
  simp only [fnL, List.forall_mem_cons]
  exact ⟨Go.Proofs.Tryz.func0, Go.Proofs.Tryz.func1, Go.Proofs.Tryz.func2, Go.Proofs.Tryz.func3, Go.Proofs.Tryz.func4, Go.Proofs.Tryz.func5, Go.Proofs.Tryz.func6, Go.Proofs.Tryz.func7, Go.Proofs.Tryz.func8, Go.Proofs.Tryz.func9, Go.Proofs.Tryz.func10, Go.Proofs.Tryz.func11, Go.Proofs.Tryz.func12, Go.Proofs.Tryz.func13, Go.Proofs.Tryz.func14, Go.Proofs.Tryz.func15, Go.Proofs.Tryz.func16, Go.Proofs.Tryz.func17, Go.Proofs.Tryz.func18, Go.Proofs.Tryz.func19, Go.Proofs.Tryz.func20, Go.Proofs.Tryz.func21, Go.Proofs.Tryz.func22, Go.Proofs.Tryz.func23, Go.Proofs.Tryz.func24, Go.Proofs.Tryz.func25, Go.Proofs.Tryz.func26, Go.Proofs.Tryz.func27, Go.Proofs.Tryz.func28, Go.Proofs.Tryz.func29, Go.Proofs.Tryz.func30, Go.Proofs.Tryz.func31, Go.Proofs.Tryz.func32, Go.Proofs.Tryz.func33, Go.Proofs.Tryz.func34, Go.Proofs.Tryz.func35, Go.Proofs.Tryz.func36, Go.Proofs.Tryz.func37, Go.Proofs.Tryz.func38, Go.Proofs.Tryz.func39, Go.Proofs.Tryz.func40, Go.Proofs.Tryz.func41, Go.Proofs.Tryz.func42, Go.Proofs.Tryz.func43, Go.Proofs.Tryz.func44, Go.Proofs.Tryz.func45, Go.Proofs.Tryz.func46, Go.Proofs.Tryz.func47, Go.Proofs.Tryz.func48, Go.Proofs.Tryz.func49, Go.Proofs.Tryz.func50, Go.Proofs.Tryz.func51, Go.Proofs.Tryz.func52, Go.Proofs.Tryz.func53, Go.Proofs.Tryz.func54, Go.Proofs.Tryz.func55, Go.Proofs.Tryz.func56, Go.Proofs.Tryz.func57, Go.Proofs.Tryz.func58, Go.Proofs.Tryz.func59, Go.Proofs.Tryz.func62, Go.Proofs.Tryz.func63, Go.Proofs.Tryz.func64, Go.Proofs.Tryz.func65, Go.Proofs.Tryz.func66, Go.Proofs.Tryz.func67, Go.Proofs.Tryz.func68, Go.Proofs.Tryz.func69, Go.Proofs.Tryz.func70, Go.Proofs.Tryz.func71, Go.Proofs.Tryz.func72, Go.Proofs.Tryz.func73, Go.Proofs.Tryz.func74, Go.Proofs.Tryz.func75, Go.Proofs.Tryz.func76, Go.Proofs.Tryz.func77, Go.Proofs.Tryz.func78, Go.Proofs.Tryz.func79, Go.Proofs.Tryz.func80, Go.Proofs.Tryz.func81, Go.Proofs.Tryz.func82, Go.Proofs.Tryz.func83, Go.Proofs.Tryz.func84, Go.Proofs.Tryz.func85, Go.Proofs.Tryz.func86, Go.Proofs.Tryz.func87, Go.Proofs.Tryz.func88, Go.Proofs.Tryz.func91, Go.Proofs.Tryz.func92, Go.Proofs.Tryz.func93, Go.Proofs.Tryz.func94, Go.Proofs.Tryz.func95, Go.Proofs.Tryz.func96, Go.Proofs.Tryz.func97, Go.Proofs.Tryz.func109, Go.Proofs.Tryz.func116, Go.Proofs.Tryz.func117, Go.Proofs.Tryz.func119, Go.Proofs.Tryz.func120, Go.Proofs.Tryz.func121, Go.Proofs.Tryz.func122, Go.Proofs.Tryz.func123, Go.Proofs.Tryz.func124, Go.Proofs.Tryz.func125, Go.Proofs.Tryz.func126, Go.Proofs.Tryz.func127, Go.Proofs.Tryz.func128, Go.Proofs.Tryz.func129, Go.Proofs.Tryz.func130, Go.Proofs.Tryz.func131, Go.Proofs.Tryz.func132, Go.Proofs.Tryz.func133, Go.Proofs.Tryz.func134, Go.Proofs.Tryz.func135, Go.Proofs.Tryz.func136, Go.Proofs.Tryz.func137, Go.Proofs.Tryz.func138, List.forall_mem_nil _⟩

theorem meth_rows : (methL.all fun r => r.2.all fun p => methodOf prog0 r.1 p.1 == some p.2) = true := by kernel_rfl

theorem name_rows : (fnL.all fun x => x.2.name != "runtime.NumGoroutine") = true := by kernel_rfl

theorem code_rows : (fnL.all fun x => match x.2.body with
  | some b => codeOk x.2.ntmps b
  | none => true) = true := by kernel_rfl

theorem field_rows : (tyL.all fun x => match x.2.d with
  | .struct fs => fs.all fun p => (getAt tyL p.2).isSome
  | _ => true) = true := by kernel_rfl

theorem keys_ty : tyL.map (·.1) = [1, 2, 3, 4, 5, 6, 8, 12, 15, 16, 17, 19, 20, 22, 24, 25, 27, 30, 33, 47, 51, 53, 54, 56, 58, 59, 61, 67, 68, 70, 74, 75, 81, 83, 88, 90, 92, 98, 102, 105, 107, 110, 112, 114, 118, 120, 149] := rfl
theorem keys_eq : eqL.map (·.1) = [2, 3, 4, 5, 6, 8, 12, 24, 30, 47, 53, 54, 70, 83, 98, 112, 114, 118, 120, 149] := rfl

theorem ok0 : Ok cfg0 prog0 where
  srt g h := by
    have e : g = 60 := by simpa [cfg0] using h
    subst e; exact sorts0
  cpt g h := by
    have e : g = 61 := by simpa [cfg0] using h
    subst e; exact compacts0
  ty t y h := by
    have h' : getAt tyL t = some y := h
    rw [ty_rows t (keys_ty ▸ List.mem_map.2 ⟨_, getAt_mem h', rfl⟩)]; exact h'
  eq t st ks h := by
    have h' : getAt eqL t = some (st, ks) := h
    exact eq_rows t (keys_eq ▸ List.mem_map.2 ⟨_, getAt_mem h', rfl⟩) st ks h'
  meth t n g h := by
    have h' : methT t n = some g := h
    unfold methT at h'
    cases e : getAt methL t with
    | none => rw [e] at h'; exact absurd h' (by simp)
    | some r =>
      rw [e] at h'
      have hm := getAt_mem e
      have ha := List.all_eq_true.1 meth_rows _ hm
      simp only [Option.map_eq_some_iff] at h'
      obtain ⟨p, hp, rfl⟩ := h'
      have h1 := List.find?_some hp
      have h2 := List.mem_of_find?_eq_some hp
      have h3 := List.all_eq_true.1 ha _ h2
      have e1 : p.1 = n := by simpa using h1
      subst e1
      simpa using h3
  glob g v h := by
    have h' : getAt globL g = some v := h
    exact getAt_mem h'
  fns g fn h := by
    have h' : getAt fnL g = some fn := h
    have hm := getAt_mem h'
    have hf := fn_rows (g, fn) hm
    refine ⟨hf, ?_, ?_⟩
    · have := List.all_eq_true.1 name_rows _ hm
      simpa using this
    · intro b hb
      have := List.all_eq_true.1 code_rows _ hm
      simpa only [hb] using this
  fields t y fs h hd x hx := by
    have h' : getAt tyL t = some y := h
    have := List.all_eq_true.1 field_rows _ (getAt_mem h')
    simp only [hd] at this
    exact Option.isSome_iff_exists.1 (List.all_eq_true.1 this _ hx)

end Go.Ab
/-
  The frame that every law of this kind shares: what was there is as it was, and more has been made.
-/
namespace Go.Ab
set_option linter.unusedSimpArgs false
set_option linter.unusedVariables false
open Go.ChangeShapes Go.RowKit

/-- A law, by the evaluator's limit. -/
theorem law_calls {C : Cfg} {P : Program} (ok : Ok C P) {f : FuncId} {args : List AV} {vals : List Value} {W : World} {H : Heap} {p : Option (AV × Bool)} (h : callFL C P false f args [] none = some ⟨.ret (.bool true), H, p⟩)
    (hg : GlobOk (Cx.start W)) (hr : RelL (Cx.start W) args vals) : Calls P f vals.toArray W fun e w' => e = .returned (.bool true) ∧ Below W.heap.size W w' := by
  obtain ⟨n, hn⟩ := lim_ex h
  exact calls_true ok hn rfl hg hr

theorem post_below {P : Program} {T : Type} {enc : TypeId × Value → T} {f : Func} {s : ChangeSpec} {apart fresh handsOn again : Bool} {W W' : World} {args : Array Value} {v : Value} {ds gs : List (DataW T)} {before pa pv : List MemPlace}
    (hW : DataW.Whole enc P f.params.toList s.vars apart W args.toList ds gs before)
    (hres : ∀ (b : Nat) (sp : Nat → Bool) (hd : Bool), DataW.TrodAll enc P W' b sp hd f.resultTypes.toList (v.resultList f.resultTypes.size) (s.fn T (ds ++ gs)).results [])
    (hargs : ∀ sp : Nat → Bool, (∀ p ∈ before, sp p.block = true) → DataW.TrodAll enc P W' 0 sp true f.params.toList args.toList (s.fn T (ds ++ gs)).args pa)
    (hvars : ∀ sp : Nat → Bool, (∀ p ∈ before, sp p.block = true) → DataW.TrodVars enc P W' sp s.vars (s.fn T (ds ++ gs)).vars pv)
    (hps : before = pa ++ pv) (hb : Below W.heap.size W W')
    (hok : ∀ (j : Nat) (t : TypeId) (r : Value), f.resultTypes[j]? = some t → (v.resultList f.resultTypes.size)[j]? = some r → Value.okWide P W' .any 0 t r) :
    s.post enc P f apart fresh handsOn again W args v W' := by
  have hold : ∀ p ∈ before, (fun b => decide (b < W.heap.size)) p.block = true := fun p hp => by simpa using hW.lt p hp
  have hlt : ∀ p ∈ before, p.block < W.heap.size := hW.lt
  refine ⟨ds, gs, before, [], pa, pv, hW, hres _ _ _, hargs _ hold, hvars _ hold, World.keptBut_mono (fun p hp => ⟨hp, ?_⟩) (hb.frame (fun p => p ∈ before)), fun _ => ?_⟩
  · rw [hps, List.mem_append] at hp
    exact Or.inr hp
  · obtain ⟨_, _, _, _, _, hz, hn⟩ := hW
    refine ⟨hok, _, _, ([] ++ pa) ++ pv, ⟨[] ++ pa, pv, trodAll_append (hargs _ (fun _ _ => rfl)) (hres _ _ _), hvars _ (fun _ _ => rfl), rfl, ?_, ?_⟩, ?_⟩
    · intro b off hp
      have hm : MemPlace.cell b off ∈ before := by rw [hps]; simpa using hp
      rw [hb.frozen (p := ⟨b, off, none⟩) (hlt _ hm)]
      exact hz b off hm
    · intro ha
      have := hn ha
      rw [hps] at this
      simpa using this
    · intro p hp _
      rw [hps]
      simpa using hp

end Go.Ab
/-
  From arguments that can be read as data to what the evaluator takes: integers, bools, structs and slices of such.
-/
namespace Go.Ab
set_option linter.unusedSimpArgs false
set_option linter.unusedVariables false
open Go.ChangeShapes Go.RowKit Go.WideShapes

/-- The shape of plain data. -/
inductive Sh where
  | int (k : IntKind)
  | bool
  | sl (agg : Bool) (e : Sh)
  | unit
  | cons (a r : Sh)

def aggTy (P : Program) (t : TypeId) : Bool :=
  match P.underlying t with
  | some (.struct _) => true
  | some (.array _ _) => true
  | _ => false

def shFields (P : Program) (rec : TypeId → Option Sh) (tot : Nat) : List Field → Nat → Option Sh
  | [], off => if off = tot then some .unit else none
  | f :: r, off =>
    if f.offset = off then
      match rec f.type, shFields P rec tot r (off + P.cellsOf f.type) with
      | some a, some b => some (.cons a b)
      | _, _ => none
    else none

def shRep : Nat → Sh → Sh
  | 0, _ => .unit
  | n + 1, s => .cons s (shRep n s)

def shOf (P : Program) : Nat → TypeId → Option Sh
  | 0, _ => none
  | n + 1, t =>
    match P.underlying t with
    | some (.int k) => some (.int k)
    | some .bool => some .bool
    | some (.slice e) => if 0 < P.cellsOf e then (shOf P n e).map (.sl (aggTy P e)) else none
    | some (.struct fs) => shFields P (shOf P n) (P.cellsOf t) fs.toList 0
    | some (.array k e) => if P.cellsOf t = k * P.cellsOf e then (shOf P n e).map (shRep k) else none
    | _ => none

def pack (agg : Bool) (cs : List AV) : AV := if agg then .agg cs else cs.headD .undef

def Shaped : Sh → List AV → Prop
  | .int k, l => ∃ n, l = [.int k n] ∧ (Lit.int k n).wf = true
  | .bool, l => ∃ b, l = [.bool b]
  | .sl agg e, l => ∃ f es, l = [.sl f es] ∧ ∀ x ∈ es, ∃ cs, Shaped e cs ∧ x = pack agg cs
  | .unit, l => l = []
  | .cons a r, l => ∃ x y, l = x ++ y ∧ Shaped a x ∧ Shaped r y

theorem rel_sl {c : Cx} {f : Bool} {es : List AV} {v : Value} : Rel c (.sl f es) v = (∃ a cap, v = .slice a es.length cap ∧ ((f = true → cap = es.length) ∧ es.length ≤ cap) ∧ (ltL 0 es = true ∧ ∀ x ∈ es, known x = true) ∧
      (es = [] ∨ ∃ b o sz ys, a = some ⟨b, o, none⟩ ∧ b < c.w.heap.size ∧ ¬ c.owned b ∧ RelL c es ys ∧ (∀ y ∈ ys, y.cells.size = sz) ∧ Lies c.w b o (flat ys))) := by
  rw [Rel]

theorem relL_one {c : Cx} {v : AV} {y : Value} (h : Rel c v y) : RelL c [v] [y] := by
  simp only [RelL]
  exact ⟨y, [], rfl, h, rfl⟩

/-- What is told of cells that have been read. -/
structure ReadOk (W : World) (sh : Sh) (cs : List Value) (avs : List AV) : Prop where
  rel : RelL (Cx.start W) avs cs
  shp : Shaped sh avs
  lt : ltL 0 avs = true
  sca : allScalar avs = true

section
variable {H : Type} {enc : TypeId × Value → H} {P : Program} {W : World}

theorem fields_read {rec : TypeId → Option Sh} {tot n : Nat} {cs : List Value} (hl : cs.length = tot)
    (ih : ∀ t sh, rec t = some sh → ∀ cs x, DataW.trod enc P W 0 (fun _ => true) true n t cs = some x → ∃ avs, ReadOk W sh cs avs) :
    ∀ (fs : List Field) (off : Nat) (sh : Sh), shFields P rec tot fs off = some sh →
      (∀ f ∈ fs, ∃ x, DataW.trod enc P W 0 (fun _ => true) true n f.type ((cs.drop f.offset).take (P.cellsOf f.type)) = some x) → ∃ avs, ReadOk W sh (cs.drop off) avs
  | [], off, sh, h, _ => by
    simp only [shFields] at h
    split at h
    · rename_i e
      injection h with h
      subst h
      exact ⟨[], by rw [List.drop_eq_nil_of_le (by omega)]; simp only [RelL], rfl, rfl, rfl⟩
    · cases h
  | f :: r, off, sh, h, hf => by
    simp only [shFields] at h
    split at h
    · rename_i e
      split at h
      · rename_i a b ha hb
        injection h with h
        subst h
        obtain ⟨x, hx⟩ := hf f (List.mem_cons_self ..)
        rw [e] at hx
        obtain ⟨avs, h1⟩ := ih f.type a ha _ x hx
        obtain ⟨bvs, h2⟩ := fields_read hl ih r _ b hb fun g hg => hf g (List.mem_cons_of_mem _ hg)
        refine ⟨avs ++ bvs, ?_, ⟨avs, bvs, rfl, h1.shp, h2.shp⟩, by rw [ltL_append, h1.lt, h2.lt]; rfl, by rw [allScalar_append, h1.sca, h2.sca]; rfl⟩
        have : cs.drop off = (cs.drop off).take (P.cellsOf f.type) ++ cs.drop (off + P.cellsOf f.type) := by
          rw [← List.drop_drop, List.take_append_drop]
        rw [this]
        exact RelL.append h1.rel h2.rel
      · cases h
    · cases h

theorem array_read {k sz : Nat} {e : TypeId} {she : Sh} {n : Nat} {cs : List Value} (hsz : P.cellsOf e = sz) (hl : cs.length = k * sz)
    (ih : ∀ cs x, DataW.trod enc P W 0 (fun _ => true) true n e cs = some x → ∃ avs, ReadOk W she cs avs)
    (hall : ∀ i, i < k → ∃ x, DataW.trod enc P W 0 (fun _ => true) true n e ((cs.drop (i * sz)).take sz) = some x) : ∀ j, j ≤ k → ∃ avs, ReadOk W (shRep j she) (cs.drop ((k - j) * sz)) avs
  | 0, _ => ⟨[], by rw [List.drop_eq_nil_of_le (by rw [hl]; exact Nat.le_refl _)]; simp only [RelL], rfl, rfl, rfl⟩
  | j + 1, hj => by
    obtain ⟨bvs, h2⟩ := array_read hsz hl ih hall j (by omega)
    obtain ⟨x, hx⟩ := hall (k - (j + 1)) (by omega)
    obtain ⟨avs, h1⟩ := ih _ _ hx
    refine ⟨avs ++ bvs, ?_, ⟨avs, bvs, rfl, h1.shp, h2.shp⟩, by rw [ltL_append, h1.lt, h2.lt]; rfl, by rw [allScalar_append, h1.sca, h2.sca]; rfl⟩
    have e1 : (k - j) * sz = (k - (j + 1)) * sz + sz := by
      rw [show k - j = (k - (j + 1)) + 1 by omega, Nat.add_mul, Nat.one_mul]
    have : cs.drop ((k - (j + 1)) * sz) = (cs.drop ((k - (j + 1)) * sz)).take sz ++ cs.drop ((k - j) * sz) := by
      rw [e1, ← List.drop_drop, List.take_append_drop]
    rw [this]
    exact RelL.append h1.rel h2.rel

theorem cells_single {y : Value} (h : ∀ cs, y ≠ .agg cs) : y.cells = #[y] := by
  cases y <;> first | rfl | exact absurd rfl (h _)

theorem elems_read {n sz : Nat} {e : TypeId} {sh : Sh} {agg : Bool} {b o : Nat} (hsz : P.cellsOf e = sz) (hpos : 0 < sz)
    (ih : ∀ cs x, DataW.trod enc P W 0 (fun _ => true) true n e cs = some x → ∃ avs, ReadOk W sh cs avs ∧ (agg = false → ∃ y, cs = [y] ∧ ∀ z, y ≠ .agg z)) {len : Nat}
    (hel : ∀ i, i < len → ∃ x, (W.cells? 0 (Addr.add ⟨b, o, none⟩ (i * sz)) sz).bind (DataW.trod enc P W 0 (fun _ => true) true n e) = some x) :
    ∀ j, j ≤ len → ∃ es ys, es.length = j ∧ RelL (Cx.start W) es ys ∧ (∀ y ∈ ys, y.cells.size = sz) ∧ Lies W b o (flat ys) ∧ ltL 0 es = true ∧ ∀ x ∈ es, known x = true ∧ ∃ cs, Shaped sh cs ∧ x = pack agg cs
  | 0, _ => ⟨[], [], rfl, by simp only [RelL], by simp, by intro k hk; simp [flat] at hk, rfl, by simp⟩
  | j + 1, hj => by
    obtain ⟨es, ys, h1, h2, h3, h4, h5, h6⟩ := elems_read hsz hpos ih hel j (by omega)
    obtain ⟨x, hx⟩ := hel j (by omega)
    rw [Option.bind_eq_some_iff] at hx
    obtain ⟨cs, hc, ht⟩ := hx
    obtain ⟨-, hcl, hcc⟩ := World.cells?_some hc
    obtain ⟨avs, hr, hs⟩ := ih cs x ht
    have hyl : ys.length = j := by rw [← h2.length, h1]
    have hfl : (flat ys).length = j * sz := by rw [flat_length h3, hyl]
    have hav : avs.length = sz := by rw [hr.rel.length, hcl]
    have key : ∃ z : Value, z.cells.toList = cs ∧ Rel (Cx.start W) (pack agg avs) z ∧ known (pack agg avs) = true ∧ (pack agg avs).lt 0 = true := by
      cases agg with
      | true =>
        refine ⟨.agg cs.toArray, by simp [Value.cells], ?_, ?_, ?_⟩
        · simp only [pack, if_true, Rel]
          exact ⟨cs.toArray, rfl, hr.rel⟩
        · simp only [pack, if_true, known, AV.cells, hr.sca]
        · simp only [pack, if_true, AV.lt, hr.lt]
      | false =>
        obtain ⟨y, rfl, hy⟩ := hs rfl
        have := hr.rel
        cases avs with
        | nil => simp at hcl hav; omega
        | cons a r =>
          simp only [RelL] at this
          obtain ⟨y', s', he, hra, hrr⟩ := this
          simp only [List.cons.injEq] at he
          obtain ⟨rfl, rfl⟩ := he
          have hs2 := hr.sca
          have hl2 := hr.lt
          simp only [allScalar, Bool.and_eq_true] at hs2
          simp only [ltL, Bool.and_eq_true] at hl2
          refine ⟨y, by rw [cells_single hy], by simpa only [pack, Bool.false_eq_true, if_false, List.headD_cons] using hra, ?_, by simpa only [pack, Bool.false_eq_true, if_false, List.headD_cons] using hl2.1⟩
          simp only [pack, Bool.false_eq_true, if_false, List.headD_cons, known]
          have : a.cells = [a] := by
            have := hs2.1
            cases a <;> simp only [AV.scalar] at this <;> first | rfl | cases this
          rw [this]; simp only [allScalar, hs2.1, Bool.and_self]
    obtain ⟨z, hz1, hz2, hz3, hz4⟩ := key
    refine ⟨es ++ [pack agg avs], ys ++ [z], by simp [h1], RelL.append h2 (by simp only [RelL]; exact ⟨z, [], rfl, hz2, rfl⟩), ?_, ?_, by rw [ltL_append, h5]; simp only [ltL, hz4, Bool.and_self], ?_⟩
    · intro y hy
      rcases List.mem_append.1 hy with hy | hy
      · exact h3 y hy
      · rw [List.mem_singleton] at hy
        subst hy
        rw [← Array.length_toList, hz1, hcl]
    · intro k hk
      rw [flat_append] at hk ⊢
      have hfz : flat [z] = cs := by simp [flat, hz1]
      rw [hfz] at hk ⊢
      rw [List.length_append, hfl, hcl] at hk
      rcases Nat.lt_or_ge k (j * sz) with hlt | hge
      · rw [List.getElem?_append_left (by omega)]
        exact h4 k (by omega)
      · rw [List.getElem?_append_right (by omega), hfl]
        have := hcc (k - j * sz) (by omega)
        rw [add_plain, add_plain] at this
        rw [← this]
        congr 2
        omega
    · intro x' hx'
      rcases List.mem_append.1 hx' with hx' | hx'
      · exact h6 x' hx'
      · rw [List.mem_singleton] at hx'
        subst hx'
        exact ⟨hz3, avs, hr.shp, rfl⟩

theorem aggTy_false {e : TypeId} (h : aggTy P e = false) {n : Nat} {sh : Sh} (hsh : shOf P n e = some sh) {m : Nat} {cs : List Value} {x : DataW H × List MemPlace} (ht : DataW.trod enc P W 0 (fun _ => true) true m e cs = some x) : ∃ y, cs = [y] ∧ ∀ z, y ≠ .agg z := by
  cases n with
  | zero => simp [shOf] at hsh
  | succ n =>
    simp only [shOf] at hsh
    split at hsh
    · rename_i hu
      obtain ⟨k, rfl, -, -⟩ := DataW.trod_int hu ht
      exact ⟨_, rfl, fun z hz => by cases hz⟩
    · rename_i hu
      obtain ⟨k, rfl, -⟩ := DataW.trod_bool hu ht
      exact ⟨_, rfl, fun z hz => by cases hz⟩
    · rename_i hu
      rcases DataW.trod_slice hu ht with ⟨rfl, -⟩ | ⟨a, len, cap, _, _, _, _, rfl, _⟩
      · exact ⟨_, rfl, fun z hz => by cases hz⟩
      · exact ⟨_, rfl, fun z hz => by cases hz⟩
    · rename_i hu
      simp [aggTy, hu] at h
    · rename_i hu
      simp [aggTy, hu] at h
    · cases hsh

theorem reads : ∀ (n : Nat) (t : TypeId) (sh : Sh), shOf P n t = some sh → ∀ (m : Nat) (cs : List Value) (x : DataW H × List MemPlace), DataW.trod enc P W 0 (fun _ => true) true m t cs = some x → ∃ avs, ReadOk W sh cs avs
  | 0, t, sh, h, _, _, _, _ => by simp [shOf] at h
  | n + 1, t, sh, h, m, cs, x, hx => by
    simp only [shOf] at h
    split at h
    · rename_i k hu
      injection h with h; subst h
      obtain ⟨z, rfl, -, hw⟩ := DataW.trod_int hu hx
      exact ⟨[.int k z], by simp only [RelL, Rel]; exact ⟨_, [], rfl, rfl, rfl⟩, ⟨z, rfl, hw⟩, rfl, rfl⟩
    · rename_i hu
      injection h with h; subst h
      obtain ⟨z, rfl, -⟩ := DataW.trod_bool hu hx
      exact ⟨[.bool z], by simp only [RelL, Rel]; exact ⟨_, [], rfl, rfl, rfl⟩, ⟨z, rfl⟩, rfl, rfl⟩
    · rename_i e hu
      split at h
      · rename_i hpos
        rw [Option.map_eq_some_iff] at h
        obtain ⟨she, he, rfl⟩ := h
        rcases DataW.trod_slice hu hx with ⟨rfl, -⟩ | ⟨a, len, cap, elems, rest, m', hm, rfl, -, -, hle, hcap, hel, hall, -, -⟩
        · refine ⟨[.sl true []], relL_one (by rw [rel_sl]; exact ⟨none, 0, rfl, ⟨fun _ => rfl, Nat.le_refl _⟩, ⟨rfl, by simp⟩, .inl rfl⟩), ⟨true, [], rfl, by simp⟩, rfl, rfl⟩
        · rcases Nat.eq_zero_or_pos len with h0 | h0
          · subst h0
            refine ⟨[.sl false []], relL_one (by rw [rel_sl]; exact ⟨some a, cap, rfl, ⟨fun h => by simp at h, Nat.zero_le _⟩, ⟨rfl, by simp⟩, .inl rfl⟩), ⟨false, [], rfl, by simp⟩, rfl, rfl⟩
          · obtain ⟨b, o, spot⟩ := a
            have hel' : ∀ i, i < len → ∃ x, (W.cells? 0 (Addr.add ⟨b, o, spot⟩ (i * P.cellsOf e)) (P.cellsOf e)).bind (DataW.trod enc P W 0 (fun _ => true) true m' e) = some x := by
              intro i hi
              rw [hall i hi]
              exact ⟨elems[i]'(by omega), List.getElem?_eq_getElem (by omega)⟩
            have hb0 : b < W.heap.size ∧ spot = none := by
              obtain ⟨y, hy⟩ := hel' 0 h0
              rw [Option.bind_eq_some_iff] at hy
              obtain ⟨c0, hc0, -⟩ := hy
              obtain ⟨-, hl0, hg0⟩ := World.cells?_some hc0
              have g := hg0 0 hpos
              rw [List.getElem?_eq_getElem (by omega)] at g
              have hsp : spot = none := by simpa [Addr.add] using World.cell?_spot g
              subst hsp
              refine ⟨?_, rfl⟩
              rw [add_plain, add_plain] at g
              simp only [World.cell?] at g
              refine Nat.lt_of_not_le fun hle => ?_
              have : W.heap[b]? = none := by simp [hle]
              simp [this] at g
            obtain ⟨hb, rfl⟩ := hb0
            obtain ⟨es, ys, h1, h2, h3, h4, h5, h6⟩ := elems_read (sh := she) (agg := aggTy P e) rfl hpos (fun cs x hx => by
              obtain ⟨avs, ha⟩ := reads n e she he m' cs x hx
              exact ⟨avs, ha, fun hf => aggTy_false hf he hx⟩) hel' len (Nat.le_refl _)
            refine ⟨[.sl false es], ?_, ⟨false, es, rfl, fun x hx => (h6 x hx).2⟩, rfl, rfl⟩
            refine relL_one ?_
            rw [rel_sl]
            refine ⟨some ⟨b, o, none⟩, cap, by rw [h1], ⟨fun h => by simp at h, by omega⟩, ⟨h5, fun x hx => (h6 x hx).1⟩, .inr ⟨b, o, P.cellsOf e, ys, rfl, hb, ?_, h2, h3, h4⟩⟩
            rintro ⟨l, hl⟩
            cases hl
      · cases h
    · rename_i fs hu
      obtain ⟨xs, m', rfl, -, hl, hfl, hall⟩ := DataW.trod_struct hu hx
      have := fields_read (enc := enc) (P := P) (W := W) (rec := shOf P n) (tot := P.cellsOf t) (n := m') (cs := cs) hl (fun t sh h cs x hx => reads n t sh h m' cs x hx) fs.toList 0 sh h (by
        intro f hf
        obtain ⟨i, hi⟩ := List.mem_iff_getElem?.1 hf
        have hi' : fs[i]? = some f := by simpa using hi
        have hlt : i < xs.length := by
          have := (List.getElem?_eq_some_iff.1 hi).1
          simp at this; omega
        exact ⟨xs[i], by rw [hall i f hi', List.getElem?_eq_getElem hlt]⟩)
      simpa using this
    · rename_i k e hu
      split at h
      · rename_i hc
        rw [Option.map_eq_some_iff] at h
        obtain ⟨she, he, rfl⟩ := h
        obtain ⟨xs, m', rfl, -, hl, hxl, hall⟩ := DataW.trod_array hu hx
        have := array_read (enc := enc) (P := P) (W := W) (she := she) (n := m') (cs := cs) (k := k) rfl (by rw [hl, hc]) (fun cs x hx => reads n e she he m' cs x hx) (fun i hi => ⟨xs[i]'(by omega), by rw [hall i hi, List.getElem?_eq_getElem (by omega)]⟩) k (Nat.le_refl _)
        simpa using this
      · cases h
    · cases h

/-- A struct that is handed in. -/
theorem arg_agg {t : TypeId} {fs : Array Field} {n : Nat} {sh : Sh} {r : Reach} {b0 : Nat} {v : Value} {d : DataW H} {ps : List MemPlace} (hu : P.underlying t = some (.struct fs)) (hsh : shOf P n t = some sh) (hval : Value.okWide P W r b0 t v) (hd : DataW.Trod enc P W 0 (fun _ => true) true t v d ps) :
    ∃ avs, Rel (Cx.start W) (.agg avs) v ∧ Shaped sh avs := by
  obtain ⟨cs, rfl, -⟩ := okWide_struct hu hval
  obtain ⟨m, hm⟩ := hd
  obtain ⟨avs, h⟩ := reads n t sh hsh m _ _ hm
  refine ⟨avs, ?_, h.shp⟩
  simp only [Rel]
  exact ⟨cs, rfl, h.rel⟩

/-- A reading, behind the call. -/
theorem trod_keep {t : TypeId} (hl : laidOutB P = true) (hr : P.readableRec t = true) (hrow : t < P.types.size) {W' : World} {v : Value} {d : DataW H} {ps : List MemPlace} {sp : Nat → Bool}
    (h : DataW.Trod enc P W 0 (fun _ => true) true t v d ps) (hb : Below W.heap.size W W') (hlt : ∀ x ∈ ps, x.block < W.heap.size) (hs : ∀ x ∈ ps, sp x.block = true) :
    DataW.Trod enc P W' 0 sp true t v d ps :=
  WideElems.Trod_stays hl hr hrow h (fun x hx => hb.same (hlt x hx)) hs

theorem trodAll_keep (hl : laidOutB P = true) {W' : World} {sp : Nat → Bool} (hb : Below W.heap.size W W') : ∀ {ts : List TypeId} {vs : List Value} {ds : List (DataW H)} {ps : List MemPlace}, (∀ t ∈ ts, P.readableRec t = true ∧ t < P.types.size) →
    DataW.TrodAll enc P W 0 (fun _ => true) true ts vs ds ps → (∀ x ∈ ps, x.block < W.heap.size) → (∀ x ∈ ps, sp x.block = true) → DataW.TrodAll enc P W' 0 sp true ts vs ds ps
  | [], [], [], _, _, h, _, _ => h
  | t :: ts, v :: vs, d :: ds, _, ht, ⟨p, q, h1, h2, e⟩, hlt, hs =>
    ⟨p, q, trod_keep hl (ht t (List.mem_cons_self ..)).1 (ht t (List.mem_cons_self ..)).2 h1 hb (fun x hx => hlt x (by rw [e]; exact List.mem_append_left _ hx)) (fun x hx => hs x (by rw [e]; exact List.mem_append_left _ hx)),
      trodAll_keep hl hb (fun t ht' => ht t (List.mem_cons_of_mem _ ht')) h2 (fun x hx => hlt x (by rw [e]; exact List.mem_append_right _ hx)) (fun x hx => hs x (by rw [e]; exact List.mem_append_right _ hx)), e⟩

end

/-- Elements, each of a kind, are a list of that kind. -/
theorem list_of {α : Type} {f : α → AV} : ∀ {es : List AV}, (∀ x ∈ es, ∃ a, x = f a) → ∃ l : List α, es = l.map f
  | [], _ => ⟨[], rfl⟩
  | x :: r, h => by
    obtain ⟨a, rfl⟩ := h x (List.mem_cons_self ..)
    obtain ⟨l, rfl⟩ := list_of fun y hy => h y (List.mem_cons_of_mem _ hy)
    exact ⟨a :: l, rfl⟩

end Go.Ab
/-
  Facts with conditions, for a walk whose conditions are discharged.
-/
namespace Go.Ab
open Go.Proofs
set_option linter.unusedSimpArgs false
set_option linter.unusedVariables false
set_option maxRecDepth 100000

variable {H : Heap}

abbrev I (n : Int) : AV := .int .i64 n

theorem w64 {n : Int} (h1 : -9223372036854775808 ≤ n) (h2 : n < 9223372036854775808) : IntKind.i64.wrap n = n := by
  simp only [IntKind.wrap, IntKind.bits, IntKind.signed]
  have e : (2 : Int) ^ 64 = 18446744073709551616 := by decide
  have e' : (2 : Int) ^ (64 - 1) = 9223372036854775808 := by decide
  simp only [Bool.true_and, decide_eq_true_eq, e, e']
  split <;> omega

theorem i64ok {n : Int} (h : -9223372036854775808 ≤ n ∧ n < 9223372036854775808) : IntKind.i64.wrap n = n := w64 h.1 h.2
theorem i64nat {n : Nat} (h : (n : Int) < 9223372036854775807) : IntKind.i64.wrap ((n : Int) + 1) = ((n + 1 : Nat) : Int) := by rw [w64 (by omega) (by omega)]; rfl
theorem ltT {a b : Int} (h : a < b) : (a < b) = True := eq_true h
theorem ltF {a b : Int} (h : ¬ a < b) : (a < b) = False := eq_false h
theorem leT {a b : Int} (h : a ≤ b) : (a ≤ b) = True := eq_true h
theorem leF {a b : Int} (h : ¬ a ≤ b) : (a ≤ b) = False := eq_false h

theorem readOf_makeMap {C : Cfg} {e : Env} {t : TypeId} {m : Option Operand} : readOf C e (.makeMap t m) = none := rfl
theorem readOf_makeSlice {C : Cfg} {e : Env} {t : TypeId} {a b : Operand} : readOf C e (.makeSlice t a b) = none := rfl
theorem readOf_box {C : Cfg} {e : Env} {t : TypeId} {a : Operand} : readOf C e (.box t a) = none := rfl

attribute [go_sem] i64ok i64nat Int.toNat_natCast Nat.mul_one List.length_map decide_true decide_false Bool.true_and Bool.and_true Bool.false_and Bool.and_false Bool.true_or Bool.or_true Bool.false_or Bool.or_false Bool.not_true Bool.not_false Bool.not_not Option.isSome_none Option.isSome_some readOf_makeMap readOf_makeSlice readOf_box List.append_eq

end Go.Ab
/-
  Plain loops: what a loop with an early end finds, and what a loop gathers.
-/
namespace Go.Ab
set_option linter.unusedSimpArgs false
set_option linter.unusedVariables false

/-- Does f hold of one of the q numbers from j on? -/
def anyF (f : Nat → Bool) : Nat → Nat → Bool
  | _, 0 => false
  | j, q + 1 => f j || anyF f (j + 1) q

/-- The first that f yields, of the q numbers from j on. -/
def findF {α : Type} (f : Nat → Option α) : Nat → Nat → Option α
  | _, 0 => none
  | j, q + 1 => match f j with
    | some x => some x
    | none => findF f (j + 1) q

/-- What is gathered over the q numbers from j on. -/
def foldF {β : Type} (g : β → Nat → β) : β → Nat → Nat → β
  | b, _, 0 => b
  | b, j, q + 1 => foldF g (g b j) (j + 1) q

theorem anyF_iff (f : Nat → Bool) : ∀ (q j : Nat), anyF f j q = true ↔ ∃ i, j ≤ i ∧ i < j + q ∧ f i = true
  | 0, j => by simp [anyF]; intro x h1 h2; omega
  | q + 1, j => by
    simp only [anyF, Bool.or_eq_true, anyF_iff f q (j + 1)]
    constructor
    · rintro (h | ⟨i, h1, h2, h3⟩)
      · exact ⟨j, by omega, by omega, h⟩
      · exact ⟨i, by omega, by omega, h3⟩
    · rintro ⟨i, h1, h2, h3⟩
      by_cases e : i = j
      · subst e; exact .inl h3
      · exact .inr ⟨i, by omega, by omega, h3⟩

theorem anyF_false (f : Nat → Bool) (q j : Nat) : anyF f j q = false ↔ ∀ i, j ≤ i → i < j + q → f i = false := by
  rw [← Bool.not_eq_true, anyF_iff]
  constructor
  · intro h i h1 h2
    rw [← Bool.not_eq_true]
    intro h3
    exact h ⟨i, h1, h2, h3⟩
  · rintro h ⟨i, h1, h2, h3⟩
    rw [h i h1 h2] at h3
    cases h3

theorem findF_some {α : Type} (f : Nat → Option α) (x : α) : ∀ (q j : Nat), findF f j q = some x ↔ ∃ i, j ≤ i ∧ i < j + q ∧ f i = some x ∧ ∀ k, j ≤ k → k < i → f k = none
  | 0, j => by
    simp only [findF, reduceCtorEq, false_iff]
    rintro ⟨i, h1, h2, -⟩; omega
  | q + 1, j => by
    simp only [findF]
    cases h : f j with
    | some y =>
      simp only [Option.some.injEq]
      constructor
      · rintro rfl
        exact ⟨j, by omega, by omega, h, fun k h1 h2 => by omega⟩
      · rintro ⟨i, h1, h2, h3, h4⟩
        by_cases e : i = j
        · subst e; rw [h] at h3; injection h3
        · have := h4 j (by omega) (by omega)
          rw [h] at this; cases this
    | none =>
      simp only
      rw [findF_some f x q (j + 1)]
      constructor
      · rintro ⟨i, h1, h2, h3, h4⟩
        refine ⟨i, by omega, by omega, h3, fun k h5 h6 => ?_⟩
        by_cases e : k = j
        · subst e; exact h
        · exact h4 k (by omega) h6
      · rintro ⟨i, h1, h2, h3, h4⟩
        have : i ≠ j := by rintro rfl; rw [h] at h3; cases h3
        exact ⟨i, by omega, by omega, h3, fun k h5 h6 => h4 k (by omega) h6⟩

end Go.Ab
/-
  Bits: sets as numbers.
-/
namespace Go.Ab
open Go.Proofs
set_option linter.unusedSimpArgs false
set_option linter.unusedVariables false
set_option maxRecDepth 100000

variable {H : Heap}

abbrev U (n : Nat) : AV := .int .u64 (n : Int)

theorem wrapU {n : Nat} (h : n < 18446744073709551616) : IntKind.u64.wrap (n : Int) = n := by
  simp only [IntKind.wrap, IntKind.bits, IntKind.signed]
  have e : (2 : Int) ^ 64 = 18446744073709551616 := by decide
  simp only [e, Bool.false_and]
  simp
  omega

theorem ofIntN {n : Nat} (hn : n < 2 ^ 63) : (BitVec.ofInt 64 (n : Int)).toNat = n := by
  rw [BitVec.ofInt_natCast, BitVec.toNat_ofNat, Nat.mod_eq_of_lt (by omega)]

theorem bitsOrI {a b : Nat} (ha : a < 2 ^ 63) (hb : b < 2 ^ 63) : bitsOp .or .i64 (a : Int) (b : Int) = some ((a ||| b : Nat) : Int) := by
  have h := Nat.or_lt_two_pow ha hb
  show some (IntKind.i64.wrap (((BitVec.ofInt 64 (a : Int) ||| BitVec.ofInt 64 (b : Int)) : BitVec 64).toNat : Int)) = _
  rw [BitVec.toNat_or, ofIntN ha, ofIntN hb, w64 (by omega) (by omega)]

theorem bitsAnd {a b : Nat} (ha : a < 2 ^ 63) (hb : b < 2 ^ 63) : bitsOp .and .u64 (a : Int) (b : Int) = some ((a &&& b : Nat) : Int) := by
  have h : a &&& b ≤ a := Nat.and_le_left
  show some (IntKind.u64.wrap (((BitVec.ofInt 64 (a : Int) &&& BitVec.ofInt 64 (b : Int)) : BitVec 64).toNat : Int)) = _
  rw [BitVec.toNat_and, ofIntN ha, ofIntN hb, wrapU (by omega)]

theorem bitsAndI {a b : Nat} (ha : a < 2 ^ 63) (hb : b < 2 ^ 63) : bitsOp .and .i64 (a : Int) (b : Int) = some ((a &&& b : Nat) : Int) := by
  have h : a &&& b ≤ a := Nat.and_le_left
  show some (IntKind.i64.wrap (((BitVec.ofInt 64 (a : Int) &&& BitVec.ofInt 64 (b : Int)) : BitVec 64).toNat : Int)) = _
  rw [BitVec.toNat_and, ofIntN ha, ofIntN hb, w64 (by omega) (by omega)]

/-- A set without another one. -/
def diffN (a b : Nat) : Nat := a ^^^ (a &&& b)

theorem andNotV (x y : BitVec 64) : x &&& ~~~y = x ^^^ (x &&& y) := by
  ext i h
  simp
  cases x[i] <;> cases y[i] <;> rfl

theorem diffN_lt {a b n : Nat} (h : a < 2 ^ n) : diffN a b < 2 ^ n := Nat.xor_lt_two_pow h (Nat.lt_of_le_of_lt Nat.and_le_left h)

theorem bitsNot {a b : Nat} (ha : a < 2 ^ 63) (hb : b < 2 ^ 63) : bitsOp .andNot .u64 (a : Int) (b : Int) = some ((diffN a b : Nat) : Int) := by
  have h := diffN_lt (b := b) ha
  show some (IntKind.u64.wrap (((BitVec.ofInt 64 (a : Int) &&& ~~~BitVec.ofInt 64 (b : Int)) : BitVec 64).toNat : Int)) = _
  rw [andNotV, BitVec.toNat_xor, BitVec.toNat_and, ofIntN ha, ofIntN hb]
  exact congrArg some (wrapU (by simp only [diffN] at h; omega))

theorem two_pow_lt {k n : Nat} (h : k < n) : 2 ^ k < 2 ^ n := Nat.pow_lt_pow_right (by omega) h

theorem shlI {k : Nat} (hk : k ≤ 60) : IntKind.i64.wrap (1 * 2 ^ (min k 64)) = ((2 ^ k : Nat) : Int) := by
  have h := two_pow_lt (show k < 61 by omega)
  rw [Nat.min_eq_left (by omega), Int.one_mul, show (2 : Int) ^ k = ((2 ^ k : Nat) : Int) by rw [Int.natCast_pow]; rfl]
  generalize (2 : Nat) ^ k = m at h ⊢
  exact w64 (by omega) (by omega)

theorem fdivN (x k : Nat) : (x : Int).fdiv (k : Int) = ((x / k : Nat) : Int) := by rw [Int.fdiv_eq_ediv_of_nonneg _ (Int.natCast_nonneg _)]; rfl

theorem div_lt {s j n : Nat} (h : s < n) : s / 2 ^ j < n := Nat.lt_of_le_of_lt (Nat.div_le_self _ _) h

/-- The set of the numbers below n that f holds of. -/
def maskN (f : Nat → Bool) : Nat → Nat
  | 0 => 0
  | n + 1 => maskN f n ||| (if f n then 2 ^ n else 0)

end Go.Ab
