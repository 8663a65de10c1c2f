/- TopWaited holds: the walk by the evaluator, the row's frame. -/
import Derived.Test.YtjhnlfgleicnjaaGreatRows
import Derived.Test.YtjhnlfgleicnjaaGreatKK0
import Derived.Test.YtjhnlfgleicnjaaGreatKK8
import Derived.ProofKit
import Derived.OpenShut
namespace Go.Proofs.YtjhnlfgleicnjaaGreat.topWaited
open Go.ChangeShapes Go.WideShapes Go.ChangeAt Go.RowKit
set_option linter.unusedVariables false
theorem own : ownKnob Tryz.prog.godebug = none := by kernel_rfl
set_option maxRecDepth 100000 in
theorem lifted (os : Os) (started : os.Started) (H : Type) (enc : TypeId × Value → H) :
    ReturnsInHanded {} Tryz.checked os 3 .any (Rows.topWaitedSpec.pre6 enc Tryz.prog Tryz.f3 Rows.topWaitedRow.domain false) (Rows.topWaitedSpec.post enc Tryz.prog Tryz.f3 false true false false) := by
  refine returnsInHanded_of_change (C := Tryz.checked) own started (by kernel_rfl) Tryz.func3
    (ChangeSpec.witness6 (enc := enc) (C := Tryz.checked) false ⟨#[], #[.agg #[.slice none 0 0, .int .i64 0, .int .i64 0, .slice none 0 0], .slice none 0 0, .slice none 0 0, .int .u16 0, .int .u8 0, .int .u8 0], []⟩ 8 (by kernel_rfl) (by kernel_rfl) (by kernel_rfl) (by kernel_rfl)) ?_
  intro W base args ds gs before hval0 hW hcnd _
  have hval : ∀ (j : Nat) t v, Tryz.f3.params[j]? = some t → args[j]? = some v → Value.okWide Tryz.prog W .any base t v := hval0
  have hW' := hW
  obtain ⟨p, q, hA0, hV, rfl, hfz, hnd⟩ := hW
  have hA : DataW.TrodAll enc Tryz.prog W 0 (fun _ => true) true Tryz.f3.params.toList args.toList ds p := hA0
  have hAk := hA
  rw [Tryz.params3] at hA hval
  obtain ⟨v0, v1, v2, v3, v4, v5, d0, d1, d2, d3, d4, d5, p0, p1, p2, p3, p4, p5, rfl, rfl, rfl, h0, h1, h2, h3, h4, h5⟩ := Go.Ab.trodAll_six hA
  obtain ⟨rfl, rfl⟩ := trodVars_none hV
  clear hA0 hval0
  simp only [List.append_nil] at hW'
  obtain ⟨s, vb, vt, r0, hvb, hvt⟩ := Go.Ab.arg_stl (hval 0 25 v0 rfl rfl) h0
  obtain ⟨fw, ws, r1, hw⟩ := Go.Ab.arg_wms (hval 1 26 v1 rfl rfl) h1
  obtain ⟨fl, us, r2, hB⟩ := Go.Ab.arg_u16s (hval 2 27 v2 rfl rfl) h2
  obtain ⟨n3, rfl, -, -, w3⟩ := open_int Tryz.underlying28 (hval 3 28 v3 rfl rfl) h3
  obtain ⟨n4, rfl, -, -, w4⟩ := open_int Tryz.underlying5 (hval 4 5 v4 rfl rfl) h4
  obtain ⟨n5, rfl, -, -, w5⟩ := open_int Tryz.underlying5 (hval 5 5 v5 rfl rfl) h5
  have hrel : Go.Ab.RelL (Go.Ab.Cx.start W) [.agg [vb, Go.Ab.I s.near, Go.Ab.I s.last, vt], .sl fw (ws.map fun x => x.1.av x.2), .sl fl (us.map Go.Ab.B16), .int .u16 n3, .int .u8 n4, .int .u8 n5] [v0, v1, v2, .int .u16 n3, .int .u8 n4, .int .u8 n5] := by
    simp only [Go.Ab.RelL]
    exact ⟨_, _, rfl, r0, ⟨_, _, rfl, r1, ⟨_, _, rfl, r2, ⟨_, _, rfl, by simp only [Go.Ab.Rel], ⟨_, _, rfl, by simp only [Go.Ab.Rel], ⟨_, _, rfl, by simp only [Go.Ab.Rel], rfl⟩⟩⟩⟩⟩⟩
  refine (Go.Ab.law_calls Go.Ab.ok0 (Go.Ab.law_TopWaited hvb hvt hw.1 hw.2 fl hB.2 hB.1 (Go.bounds_u16 w3) (Go.bounds_u8 w4) (Go.bounds_u8 w5)) (fun _ _ h => by cases h) hrel).mono fun e W' ⟨he, hg⟩ => ?_
  subst he
  have hlt := hW'.lt
  exact ⟨_, rfl, Go.Ab.post_below (pv := []) hW' (fun _ _ _ => (trodAll_cons_mk (shut_bool Tryz.underlying4 _) trodAll_mk0)) (fun sp hs => Go.Ab.trodAll_keep Go.Ab.laid0 hg (show ∀ t ∈ ([25, 26, 27, 28, 5, 5] : List TypeId), Tryz.prog.readableRec t = true ∧ t < Tryz.prog.types.size from by simp only [List.forall_mem_cons]; exact ⟨⟨by kernel_rfl, of_decide_eq_true (by kernel_rfl)⟩, ⟨⟨by kernel_rfl, of_decide_eq_true (by kernel_rfl)⟩, ⟨⟨by kernel_rfl, of_decide_eq_true (by kernel_rfl)⟩, ⟨⟨by kernel_rfl, of_decide_eq_true (by kernel_rfl)⟩, ⟨⟨by kernel_rfl, of_decide_eq_true (by kernel_rfl)⟩, ⟨⟨by kernel_rfl, of_decide_eq_true (by kernel_rfl)⟩, List.forall_mem_nil _⟩⟩⟩⟩⟩⟩) hAk hlt hs) (fun _ _ => rfl) (by rw [List.append_nil])
    hg (ok_one (by kernel_rfl) rfl (okWide_bool_mk Tryz.underlying4 _))⟩
theorem over : Rows.topWaitedRow.holds Tryz.pinned (OpenSpec.ofChange Rows.topWaitedSpec) :=
  OpenClaim.holds_of_wide 3 Tryz.f3 rfl rfl rfl rfl rfl rfl rfl ⟨rfl, rfl, rfl, rfl, rfl⟩ rfl rfl rfl rfl rfl (by kernel_rfl) Tryz.func3 (by kernel_rfl)
    (of_decide_eq_true (by kernel_rfl)) (by unfold Func.isWrapper; rw [if_neg (by decide +kernel)]; exact ⟨rfl, rfl⟩)
    (fun os started H enc _ => lifted os started H enc)
theorem proved : Rows.TopWaitedSaid :=
  over
#print axioms proved
end Go.Proofs.YtjhnlfgleicnjaaGreat.topWaited
