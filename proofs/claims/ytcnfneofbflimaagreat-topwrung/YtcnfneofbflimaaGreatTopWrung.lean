/- TopWrung holds: the walk by the evaluator, the row's frame. -/
import Derived.Test.YtcnfneofbflimaaGreatRows
import Derived.Test.YtcnfneofbflimaaGreatKK0
import Derived.Test.YtcnfneofbflimaaGreatKK5
import Derived.Test.YtcnfneofbflimaaGreatKK12
import Derived.ProofKit
import Derived.OpenShut
namespace Go.Proofs.YtcnfneofbflimaaGreat.topWrung
open Go.ChangeShapes Go.WideShapes Go.ChangeAt Go.RowKit
set_option linter.unusedVariables false
theorem own : ownKnob Tryz.prog.godebug = none := by kernel_rfl
set_option maxRecDepth 100000 in
theorem lifted (os : Os) (started : os.Started) (H : Type) (enc : TypeId × Value → H) :
    ReturnsInHanded {} Tryz.checked os 3 .any (Rows.topWrungSpec.pre6 enc Tryz.prog Tryz.f3 Rows.topWrungRow.domain false) (Rows.topWrungSpec.post enc Tryz.prog Tryz.f3 false true false false) := by
  refine returnsInHanded_of_change (C := Tryz.checked) own started (by kernel_rfl) Tryz.func3
    (ChangeSpec.witness6 (enc := enc) (C := Tryz.checked) false ⟨#[], #[.agg #[.slice none 0 0, .slice none 0 0], .int .u16 0, .int .u8 0, .slice none 0 0], []⟩ 8 (by kernel_rfl) (by kernel_rfl) (by kernel_rfl) (by kernel_rfl)) ?_
  intro W base args ds gs before hval0 hW hcnd _
  have hval : ∀ (j : Nat) t v, Tryz.f3.params[j]? = some t → args[j]? = some v → Value.okWide Tryz.prog W .any base t v := hval0
  have hW' := hW
  obtain ⟨p, q, hA0, hV, rfl, hfz, hnd⟩ := hW
  have hA : DataW.TrodAll enc Tryz.prog W 0 (fun _ => true) true Tryz.f3.params.toList args.toList ds p := hA0
  have hAk := hA
  rw [Tryz.params3] at hA hval
  obtain ⟨v0, v1, v2, v3, d0, d1, d2, d3, p0, p1, p2, p3, rfl, rfl, rfl, h0, h1, h2, h3⟩ := trodAll_four hA
  obtain ⟨rfl, rfl⟩ := trodVars_none hV
  clear hA0 hval0
  simp only [List.append_nil] at hW'
  obtain ⟨w, vb, va, r0, hw⟩ := Go.Ab.arg_wg (hval 0 25 v0 rfl rfl) h0
  obtain ⟨n1, rfl, -, -, w1⟩ := open_int Tryz.underlying26 (hval 1 26 v1 rfl rfl) h1
  obtain ⟨n2, rfl, -, -, w2⟩ := open_int Tryz.underlying5 (hval 2 5 v2 rfl rfl) h2
  obtain ⟨fl, us, r3, hB⟩ := Go.Ab.arg_u16s (hval 3 27 v3 rfl rfl) h3
  have hrel : Go.Ab.RelL (Go.Ab.Cx.start W) [.agg [vb, va], .int .u16 n1, .int .u8 n2, .sl fl (us.map Go.Ab.B16)] [v0, .int .u16 n1, .int .u8 n2, v3] := by
    simp only [Go.Ab.RelL]
    exact ⟨_, _, rfl, r0, ⟨_, _, rfl, by simp only [Go.Ab.Rel], ⟨_, _, rfl, by simp only [Go.Ab.Rel], ⟨_, _, rfl, r3, rfl⟩⟩⟩⟩
  refine (Go.Ab.law_calls Go.Ab.ok0 (Go.Ab.law_TopWrung hw (Go.bounds_u16 w1) (Go.bounds_u8 w2) fl us hB.2 hB.1) (fun _ _ h => by cases h) hrel).mono fun e W' ⟨he, hg⟩ => ?_
  subst he
  have hlt := hW'.lt
  exact ⟨_, rfl, Go.Ab.post_below (pv := []) hW' (fun _ _ _ => (trodAll_cons_mk (shut_bool Tryz.underlying4 _) trodAll_mk0)) (fun sp hs => Go.Ab.trodAll_keep Go.Ab.laid0 hg (show ∀ t ∈ ([25, 26, 5, 27] : List TypeId), Tryz.prog.readableRec t = true ∧ t < Tryz.prog.types.size from by simp only [List.forall_mem_cons]; exact ⟨⟨by kernel_rfl, of_decide_eq_true (by kernel_rfl)⟩, ⟨⟨by kernel_rfl, of_decide_eq_true (by kernel_rfl)⟩, ⟨⟨by kernel_rfl, of_decide_eq_true (by kernel_rfl)⟩, ⟨⟨by kernel_rfl, of_decide_eq_true (by kernel_rfl)⟩, List.forall_mem_nil _⟩⟩⟩⟩) hAk hlt hs) (fun _ _ => rfl) (by rw [List.append_nil])
    hg (ok_one (by kernel_rfl) rfl (okWide_bool_mk Tryz.underlying4 _))⟩
theorem over : Rows.topWrungRow.holds Tryz.pinned (OpenSpec.ofChange Rows.topWrungSpec) :=
  OpenClaim.holds_of_wide 3 Tryz.f3 rfl rfl rfl rfl rfl rfl rfl ⟨rfl, rfl, rfl, rfl, rfl⟩ rfl rfl rfl rfl rfl (by kernel_rfl) Tryz.func3 (by kernel_rfl)
    (of_decide_eq_true (by kernel_rfl)) (by unfold Func.isWrapper; rw [if_neg (by decide +kernel)]; exact ⟨rfl, rfl⟩)
    (fun os started H enc _ => lifted os started H enc)
theorem proved : Rows.TopWrungSaid :=
  over
#print axioms proved
end Go.Proofs.YtcnfneofbflimaaGreat.topWrung
