/-
  FringeSets holds: the walk by the evaluator, the row's frame.
-/
import Derived.Test.YtcalhkhkiahecaaGreatRows
import Derived.Test.YtcalhkhkiahecaaGreatKK0
import Derived.Test.YtcalhkhkiahecaaGreatKK1
import Derived.Test.YtcalhkhkiahecaaGreatKK5
import Derived.ProofKit
import Derived.OpenShut
namespace Go.Proofs.YtcalhkhkiahecaaGreat.fringeSets
open Go.ChangeShapes Go.WideShapes Go.ChangeAt Go.RowKit
set_option linter.unusedVariables false

theorem own : ownKnob Tryz.prog.godebug = none := by kernel_rfl

set_option maxRecDepth 100000 in
theorem lifted (os : Os) (started : os.Started) (H : Type) (enc : TypeId × Value → H) :
    ReturnsInHanded {} Tryz.checked os 4 .any (Rows.fringeSetsSpec.pre6 enc Tryz.prog Tryz.f4 Rows.fringeSetsRow.domain false) (Rows.fringeSetsSpec.post enc Tryz.prog Tryz.f4 false true false false) := by
  refine returnsInHanded_of_change (C := Tryz.checked) own started (by kernel_rfl) Tryz.func4
    (ChangeSpec.witness6 (enc := enc) (C := Tryz.checked) false ⟨#[], #[.agg #[.slice none 0 0, .int .i64 0, .int .i64 0, .slice none 0 0]], []⟩ 8 (by kernel_rfl) (by kernel_rfl) (by kernel_rfl) (by kernel_rfl)) ?_
  intro W base args ds gs before hval0 hW hcnd _
  have hval : ∀ (j : Nat) t v, Tryz.f4.params[j]? = some t → args[j]? = some v → Value.okWide Tryz.prog W .any base t v := hval0
  have hW' := hW
  obtain ⟨p, q, hA0, hV, rfl, hfz, hnd⟩ := hW
  have hA : DataW.TrodAll enc Tryz.prog W 0 (fun _ => true) true Tryz.f4.params.toList args.toList ds p := hA0
  have hAk := hA
  rw [Tryz.params4] at hA hval
  obtain ⟨v0, d0, rfl, rfl, h0⟩ := trodAll_one hA
  obtain ⟨rfl, rfl⟩ := trodVars_none hV
  clear hA0 hval0
  simp only [List.append_nil] at hW'
  obtain ⟨f, vw, vr, r0, hf⟩ := Go.Ab.arg_frg (hval 0 27 v0 rfl rfl) h0
  have hrel : Go.Ab.RelL (Go.Ab.Cx.start W) [.agg [vw, .int .i64 f.lo, .int .i64 f.hi, vr]] [v0] := by
    simp only [Go.Ab.RelL]
    exact ⟨_, _, rfl, r0, rfl⟩
  refine (Go.Ab.law_calls Go.Ab.ok0 (Go.Ab.law_FringeSets hf) (fun _ _ h => by cases h) hrel).mono fun e W' ⟨he, hg⟩ => ?_
  subst he
  have hlt := hW'.lt
  exact ⟨_, rfl, Go.Ab.post_below (pv := []) hW' (fun _ _ _ => (trodAll_cons_mk (shut_bool Tryz.underlying4 _) trodAll_mk0)) (fun sp hs => Go.Ab.trodAll_keep Go.Ab.laid0 hg (show ∀ t ∈ ([27] : List TypeId), Tryz.prog.readableRec t = true ∧ t < Tryz.prog.types.size from by simp only [List.forall_mem_cons]; exact ⟨⟨by kernel_rfl, of_decide_eq_true (by kernel_rfl)⟩, List.forall_mem_nil _⟩) hAk hlt hs) (fun _ _ => rfl) (by rw [List.append_nil])
    hg (ok_one (by kernel_rfl) rfl (okWide_bool_mk Tryz.underlying4 _))⟩

theorem over : Rows.fringeSetsRow.holds Tryz.pinned (OpenSpec.ofChange Rows.fringeSetsSpec) :=
  OpenClaim.holds_of_wide 4 Tryz.f4 rfl rfl rfl rfl rfl rfl rfl ⟨rfl, rfl, rfl, rfl, rfl⟩ rfl rfl rfl rfl rfl (by kernel_rfl) Tryz.func4 (by kernel_rfl)
    (of_decide_eq_true (by kernel_rfl)) (by unfold Func.isWrapper; rw [if_neg (by decide +kernel)]; exact ⟨rfl, rfl⟩)
    (fun os started H enc _ => lifted os started H enc)

/-- The statement. -/
theorem proved : Rows.FringeSetsSaid :=
  over

#print axioms proved
end Go.Proofs.YtcalhkhkiahecaaGreat.fringeSets
