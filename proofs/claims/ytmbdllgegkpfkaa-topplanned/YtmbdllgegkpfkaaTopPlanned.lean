/-
  TopPlanned holds: the walk by the evaluator, the row's frame.
-/
import Derived.Test.YtmbdllgegkpfkaaRows
import Derived.Test.YtmbdllgegkpfkaaKK0
import Derived.Test.YtmbdllgegkpfkaaKK6
import Derived.Test.YtmbdllgegkpfkaaKK7
import Derived.ProofKit
import Derived.OpenShut
namespace Go.Proofs.Ytmbdllgegkpfkaa.topPlanned
open Go.ChangeShapes Go.WideShapes Go.ChangeAt Go.RowKit
set_option linter.unusedVariables false

theorem own : ownKnob Try.prog.godebug = none := by kernel_rfl

set_option maxRecDepth 100000 in
theorem lifted (os : Os) (started : os.Started) (H : Type) (enc : TypeId × Value → H) :
    ReturnsInHanded {} Try.checked os 3 .any (Rows.topPlannedSpec.pre6 enc Try.prog Try.f3 Rows.topPlannedRow.domain false) (Rows.topPlannedSpec.post enc Try.prog Try.f3 false true false false) := by
  refine returnsInHanded_of_change (C := Try.checked) own started (by kernel_rfl) Try.func3
    (ChangeSpec.witness6 (enc := enc) (C := Try.checked) false ⟨#[], #[.agg #[.slice none 0 0, .int .i64 0, .int .i64 0, .int .i64 0, .int .i64 0, .slice none 0 0, .int .i64 0, .slice none 0 0], .slice none 0 0], []⟩ 8 (by kernel_rfl) (by kernel_rfl) (by kernel_rfl) (by kernel_rfl)) ?_
  intro W base args ds gs before hval0 hW hcnd _
  have hval : ∀ (j : Nat) t v, Try.f3.params[j]? = some t → args[j]? = some v → Value.okWide Try.prog W .any base t v := hval0
  have hW' := hW
  obtain ⟨p, q, hA0, hV, rfl, hfz, hnd⟩ := hW
  have hA : DataW.TrodAll enc Try.prog W 0 (fun _ => true) true Try.f3.params.toList args.toList ds p := hA0
  have hAk := hA
  rw [Try.params3] at hA hval
  obtain ⟨v0, v1, d0, d1, p0, p1, rfl, rfl, rfl, h0, h1⟩ := trodAll_two hA
  obtain ⟨rfl, rfl⟩ := trodVars_none hV
  clear hA0 hval0
  simp only [List.append_nil] at hW'
  obtain ⟨n, vb, vr, vp, r0, hn⟩ := Go.Ab.arg_pn (hval 0 30 v0 rfl rfl) h0
  obtain ⟨fl, us, r1, hB⟩ := Go.Ab.arg_u16s (hval 1 31 v1 rfl rfl) h1
  have hrel : Go.Ab.RelL (Go.Ab.Cx.start W) [.agg [vb, .int .i64 n.pr.zlo, .int .i64 n.pr.zhi, .int .i64 n.pr.rlo, .int .i64 n.pr.rhi, vr, .int .i64 n.wide, vp], .sl fl (us.map Go.Ab.B16)] [v0, v1] := by
    simp only [Go.Ab.RelL]
    exact ⟨_, _, rfl, r0, ⟨_, _, rfl, r1, rfl⟩⟩
  refine (Go.Ab.law_calls Go.Ab.ok0 (Go.Ab.law_TopPlanned hn fl us hB.2 hB.1) (fun _ _ h => by cases h) hrel).mono fun e W' ⟨he, hg⟩ => ?_
  subst he
  have hlt := hW'.lt
  exact ⟨_, rfl, Go.Ab.post_below (pv := []) hW' (fun _ _ _ => (trodAll_cons_mk (shut_bool Try.underlying4 _) trodAll_mk0)) (fun sp hs => Go.Ab.trodAll_keep Go.Ab.laid0 hg (show ∀ t ∈ ([30, 31] : List TypeId), Try.prog.readableRec t = true ∧ t < Try.prog.types.size from by simp only [List.forall_mem_cons]; exact ⟨⟨by kernel_rfl, of_decide_eq_true (by kernel_rfl)⟩, ⟨⟨by kernel_rfl, of_decide_eq_true (by kernel_rfl)⟩, List.forall_mem_nil _⟩⟩) hAk hlt hs) (fun _ _ => rfl) (by rw [List.append_nil])
    hg (ok_one (by kernel_rfl) rfl (okWide_bool_mk Try.underlying4 _))⟩

theorem over : Rows.topPlannedRow.holds Try.pinned (OpenSpec.ofChange Rows.topPlannedSpec) :=
  OpenClaim.holds_of_wide 3 Try.f3 rfl rfl rfl rfl rfl rfl rfl ⟨rfl, rfl, rfl, rfl, rfl⟩ rfl rfl rfl rfl rfl (by kernel_rfl) Try.func3 (by kernel_rfl)
    (of_decide_eq_true (by kernel_rfl)) (by unfold Func.isWrapper; rw [if_neg (by decide +kernel)]; exact ⟨rfl, rfl⟩)
    (fun os started H enc _ => lifted os started H enc)

/-- The statement. -/
theorem proved : Rows.TopPlannedSaid :=
  over

#print axioms proved
end Go.Proofs.Ytmbdllgegkpfkaa.topPlanned
