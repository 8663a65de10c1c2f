/-
  FringeMore holds: the walk by the evaluator, the row's frame.
-/
import Derived.Test.YtcalhkhkiahecaaRows
import Derived.Test.YtcalhkhkiahecaaKK0
import Derived.Test.YtcalhkhkiahecaaKK1
import Derived.Test.YtcalhkhkiahecaaKK7
import Derived.ProofKit
import Derived.OpenShut
namespace Go.Proofs.Ytcalhkhkiahecaa.fringeMore
open Go.ChangeShapes Go.WideShapes Go.ChangeAt Go.RowKit
set_option linter.unusedVariables false

theorem own : ownKnob Try.prog.godebug = none := by kernel_rfl

set_option maxRecDepth 100000 in
theorem lifted (os : Os) (started : os.Started) (H : Type) (enc : TypeId × Value → H) :
    ReturnsInHanded {} Try.checked os 10 .any (Rows.fringeMoreSpec.pre6 enc Try.prog Try.f10 Rows.fringeMoreRow.domain false) (Rows.fringeMoreSpec.post enc Try.prog Try.f10 false true false false) := by
  refine returnsInHanded_of_change (C := Try.checked) own started (by kernel_rfl) Try.func10
    (ChangeSpec.witness6 (enc := enc) (C := Try.checked) false ⟨#[], #[.agg #[.slice none 0 0, .int .i64 0, .int .i64 0, .slice none 0 0], .agg #[.int .i64 0, .int .i64 0, .int .i64 0], .int .u8 0], []⟩ 8 (by kernel_rfl) (by kernel_rfl) (by kernel_rfl) (by kernel_rfl)) ?_
  intro W base args ds gs before hval0 hW hcnd _
  have hval : ∀ (j : Nat) t v, Try.f10.params[j]? = some t → args[j]? = some v → Value.okWide Try.prog W .any base t v := hval0
  have hW' := hW
  obtain ⟨p, q, hA0, hV, rfl, hfz, hnd⟩ := hW
  have hA : DataW.TrodAll enc Try.prog W 0 (fun _ => true) true Try.f10.params.toList args.toList ds p := hA0
  have hAk := hA
  rw [Try.params10] at hA hval
  obtain ⟨v0, v1, v2, d0, d1, d2, p0, p1, p2, rfl, rfl, rfl, h0, h1, h2⟩ := trodAll_three hA
  obtain ⟨rfl, rfl⟩ := trodVars_none hV
  clear hA0 hval0
  simp only [List.append_nil] at hW'
  obtain ⟨f, vw, vr, r0, hf⟩ := Go.Ab.arg_frg (hval 0 32 v0 rfl rfl) h0
  obtain ⟨x, r1, hx⟩ := Go.Ab.arg_rd (hval 1 38 v1 rfl rfl) h1
  obtain ⟨n2, rfl, -, -, w2⟩ := open_int Try.underlying5 (hval 2 5 v2 rfl rfl) h2
  have hrel : Go.Ab.RelL (Go.Ab.Cx.start W) [.agg [vw, .int .i64 f.lo, .int .i64 f.hi, vr], .agg [.int .i64 x.c, .int .i64 x.lo, .int .i64 x.hi], .int .u8 n2] [v0, v1, .int .u8 n2] := by
    simp only [Go.Ab.RelL]
    exact ⟨_, _, rfl, r0, ⟨_, _, rfl, r1, ⟨_, _, rfl, by simp only [Go.Ab.Rel], rfl⟩⟩⟩
  refine (Go.Ab.law_calls Go.Ab.ok0 (Go.Ab.law_FringeMore hf hf.ws.lt0 hf.rs.lt0 x n2 (Go.bounds_u8 w2)) (fun _ _ h => by cases h) hrel).mono fun e W' ⟨he, hg⟩ => ?_
  subst he
  have hlt := hW'.lt
  exact ⟨_, rfl, Go.Ab.post_below (pv := []) hW' (fun _ _ _ => (trodAll_cons_mk (shut_bool Try.underlying4 _) trodAll_mk0)) (fun sp hs => Go.Ab.trodAll_keep Go.Ab.laid0 hg (show ∀ t ∈ ([32, 38, 5] : List TypeId), Try.prog.readableRec t = true ∧ t < Try.prog.types.size from by simp only [List.forall_mem_cons]; exact ⟨⟨by kernel_rfl, of_decide_eq_true (by kernel_rfl)⟩, ⟨⟨by kernel_rfl, of_decide_eq_true (by kernel_rfl)⟩, ⟨⟨by kernel_rfl, of_decide_eq_true (by kernel_rfl)⟩, List.forall_mem_nil _⟩⟩⟩) hAk hlt hs) (fun _ _ => rfl) (by rw [List.append_nil])
    hg (ok_one (by kernel_rfl) rfl (okWide_bool_mk Try.underlying4 _))⟩

theorem over : Rows.fringeMoreRow.holds Try.pinned (OpenSpec.ofChange Rows.fringeMoreSpec) :=
  OpenClaim.holds_of_wide 10 Try.f10 rfl rfl rfl rfl rfl rfl rfl ⟨rfl, rfl, rfl, rfl, rfl⟩ rfl rfl rfl rfl rfl (by kernel_rfl) Try.func10 (by kernel_rfl)
    (of_decide_eq_true (by kernel_rfl)) (by unfold Func.isWrapper; rw [if_neg (by decide +kernel)]; exact ⟨rfl, rfl⟩)
    (fun os started H enc _ => lifted os started H enc)

/-- The statement. -/
theorem proved : Rows.FringeMoreSaid :=
  over

#print axioms proved
end Go.Proofs.Ytcalhkhkiahecaa.fringeMore
