/-
  More fuel changes nothing: a run of the evaluator that has come to an end comes to the same end with more.
-/
import Derived.Test.YtmbdllgegkpfkaaD9
namespace Go.Ab
set_option linter.unusedSimpArgs false
set_option linter.unusedVariables false

structure MonoLe (C : Cfg) (P : Program) (n m : Nat) : Prop where
  exec : ∀ F todo s d, exec C P n F todo s = some d → exec C P m F todo s = some d
  leave : ∀ F j s d, leave C P n F j s = some d → leave C P m F j s = some d
  endLoop : ∀ F k L s x d, endLoop C P n F k L s x = some d → endLoop C P m F k L s x = some d
  unw : ∀ F q s d, unw C P n F q s = some d → unw C P m F q s = some d
  ops : ∀ F all rest s d, ops C P n F all rest s = some d → ops C P m F all rest s = some d
  drawn : ∀ F id opl s d, drawn C P n F id opl s = some d → drawn C P m F id opl s = some d
  dops : ∀ F all ps i rest l s lds efs d, dops C P n F all ps i rest l s lds efs = some d → dops C P m F all ps i rest l s lds efs = some d
  callF : ∀ dfd g args H pan d, callF C P n dfd g args H pan = some d → callF C P m dfd g args H pan = some d
  callV : ∀ base dfd f args cap H pan d, callV C P n base dfd f args cap H pan = some d → callV C P m base dfd f args cap H pan = some d
  callB : ∀ base g args H d, callB C P n base g args H = some d → callB C P m base g args H = some d

theorem mono_step {C : Cfg} {P : Program} {n m : Nat} (ih : MonoLe C P n m) : MonoLe C P (n + 1) (m + 1) := by
  constructor
  · intro F todo s d h
    cases todo with
    | nil =>
      simp only [Ab.exec] at h ⊢
      exact ih.leave _ _ _ _ h
    | cons it k =>
      cases it with
      | inBlock id => simp only [Ab.exec] at h ⊢; exact ih.exec _ _ _ _ h
      | inLoop x => simp only [Ab.exec] at h ⊢; exact ih.exec _ _ _ _ h
      | inScope x => simp only [Ab.exec] at h ⊢; exact ih.exec _ _ _ _ h
      | inRegion _ _ => simp [Ab.exec] at h
      | inRangeFunc _ => simp [Ab.exec] at h
      | endRangeFunc _ => simp [Ab.exec] at h
      | call _ _ _ _ => simp [Ab.exec] at h
      | extern _ _ => simp [Ab.exec] at h
      | beginRound =>
        simp only [Ab.exec] at h ⊢
        split at h
        · split at h
          · split at h
            · rename_i h1 h2; simp only [h1, h2, if_true]; exact ih.exec _ _ _ _ h
            · cases h
          · cases h
        · cases h
      | code x =>
        cases x with
        | skip => simp only [Ab.exec] at h ⊢; exact ih.exec _ _ _ _ h
        | label l => simp only [Ab.exec] at h ⊢; exact ih.exec _ _ _ _ h
        | ret => simp only [Ab.exec] at h ⊢; exact ih.leave _ _ _ _ h
        | seq a b => simp only [Ab.exec] at h ⊢; exact ih.exec _ _ _ _ h
        | block a b => simp only [Ab.exec] at h ⊢; exact ih.exec _ _ _ _ h
        | loop a => simp only [Ab.exec] at h ⊢; exact ih.exec _ _ _ _ h
        | scope a => simp only [Ab.exec] at h ⊢; exact ih.exec _ _ _ _ h
        | cond c a b =>
          simp only [Ab.exec] at h ⊢
          split at h
          · rename_i e; exact ih.exec _ _ _ _ h
          · rename_i e; exact ih.exec _ _ _ _ h
          · cases h
        | exit id =>
          simp only [Ab.exec] at h ⊢
          split at h
          · exact ih.exec _ _ _ _ h
          · exact ih.leave _ _ _ _ h
        | goto id =>
          simp only [Ab.exec] at h ⊢
          split at h
          · exact ih.exec _ _ _ _ h
          · exact ih.leave _ _ _ _ h
        | region id opl draw =>
          simp only [Ab.exec] at h ⊢
          split at h
          · cases h
          · split at h
            · rename_i hd
              rw [if_pos hd]
              split at h
              · rename_i e; rw [ih.drawn _ _ _ _ _ e]; exact ih.exec _ _ _ _ h
              · rename_i e; rw [ih.drawn _ _ _ _ _ e]; exact ih.unw _ _ _ _ h
              · cases h
            · rename_i hd
              rw [if_neg hd]
              split at h
              · rename_i hi
                rw [if_pos hi]
                split at h
                · rename_i l _
                  obtain ⟨h1, h2⟩ := oneOf_some.1 h
                  refine oneOf_some.2 ⟨by simpa using h1, fun x hx => ?_⟩
                  obtain ⟨s1, hs1, rfl⟩ := List.mem_map.1 hx
                  have h := h2 _ (List.mem_map_of_mem hs1)
                  split at h
                  · rename_i e; rw [ih.ops _ _ _ _ _ e]; exact ih.exec _ _ _ _ h
                  · rename_i e; rw [ih.ops _ _ _ _ _ e]; exact ih.unw _ _ _ _ h
                  · cases h
                · cases h
              rename_i hi
              rw [if_neg hi]
              split at h
              · rename_i e; rw [ih.ops _ _ _ _ _ e]; exact ih.exec _ _ _ _ h
              · rename_i e; rw [ih.ops _ _ _ _ _ e]; exact ih.unw _ _ _ _ h
              · cases h
        | rangeFunc f ps a b =>
          simp only [Ab.exec] at h ⊢
          split at h
          · split at h
            · split at h
              · rename_i e; rw [ih.callV _ _ _ _ _ _ _ _ e]; exact ih.endLoop _ _ _ _ _ _ h
              · cases h
            · split at h
              · split at h
                · rename_i e; rw [ih.callV _ _ _ _ _ _ _ _ e]; exact ih.endLoop _ _ _ _ _ _ h
                · cases h
              · cases h
          · cases h
        | _ => simp [Ab.exec] at h
  · intro F j s d h
    simp only [Ab.leave] at h ⊢
    split at h
    · exact h
    · split at h
      · exact ih.unw _ _ _ _ h
      · exact ih.unw _ _ _ _ h
      · cases h
  · intro F k L s x d h
    simp only [Ab.endLoop] at h ⊢
    split at h
    · exact ih.unw _ _ _ _ h
    · split at h
      · split at h
        · cases h
        · rename_i h1; rw [if_neg h1]; exact ih.exec _ _ _ _ h
      · cases h
  · intro F m s d h
    simp only [Ab.unw] at h ⊢
    split at h
    · split at h
      · exact ih.unw _ _ _ _ h
      · cases h
    · split at h
      · rename_i e
        rw [ih.callV _ _ _ _ _ _ _ _ e]
        dsimp only
        split at h
        · exact ih.unw _ _ _ _ h
        · exact ih.unw _ _ _ _ h
      · cases h
    · exact h
  · intro F all rest s d h
    cases rest with
    | nil => simp only [Ab.ops] at h ⊢; exact h
    | cons o r =>
      simp only [Ab.ops] at h ⊢
      split at h
      · cases h
      · exact ih.ops _ _ _ _ _ h
      · split at h
        · cases h
        · exact ih.ops _ _ _ _ _ h
        · split at h
          · rename_i e; rw [ih.callV _ _ _ _ _ _ _ _ e]; exact ih.ops _ _ _ _ _ h
          · rename_i e; rw [ih.callV _ _ _ _ _ _ _ _ e]; exact h
          · cases h
        · exact h
        · exact ih.ops _ _ _ _ _ h
        · split at h
          · exact ih.ops _ _ _ _ _ h
          · exact ih.ops _ _ _ _ _ h
          · cases h
  · intro F id opl s d h
    simp only [Ab.drawn] at h ⊢
    split at h
    · split at h
      · rename_i h1; rw [if_pos h1]; exact ih.dops _ _ _ _ _ _ _ _ _ _ h
      · cases h
    · cases h
  · intro F all ps i rest l s lds efs d h
    cases rest with
    | nil => simp only [Ab.dops] at h ⊢; exact h
    | cons o r =>
      simp only [Ab.dops] at h ⊢
      split at h
      · cases h
      · exact ih.dops _ _ _ _ _ _ _ _ _ _ h
      · split at h
        · split at h
          · rename_i h1; rw [if_pos h1]; exact ih.dops _ _ _ _ _ _ _ _ _ _ h
          · rename_i h1; rw [if_neg h1]; exact ih.dops _ _ _ _ _ _ _ _ _ _ h
        · split at h
          · rename_i e; rw [ih.callV _ _ _ _ _ _ _ _ e]; exact ih.dops _ _ _ _ _ _ _ _ _ _ h
          · rename_i e; rw [ih.callV _ _ _ _ _ _ _ _ e]; exact h
          · cases h
        · cases h
  · intro dfd g args H pan d h
    simp only [Ab.callF] at h ⊢
    split at h
    · exact h
    · split at h
      · cases h
      · split at h
        · rename_i h1
          rw [if_pos h1]
          rw [Option.map_eq_some_iff] at h ⊢
          obtain ⟨x, hx, hy⟩ := h
          exact ⟨x, ih.exec _ _ _ _ hx, hy⟩
        · cases h
  · intro base dfd f args cap H pan d h
    cases f with
    | func g =>
      simp only [Ab.callV] at h ⊢
      split at h
      · rename_i hg
        rw [if_pos hg]
        split at h
        · cases h
        · rename_i hd
          rw [if_neg hd]
          exact ih.callB _ _ _ _ _ h
      · rename_i hg
        rw [if_neg hg]
        exact ih.callF _ _ _ _ _ _ h
    | method name =>
      simp only [Ab.callV] at h ⊢
      split at h
      · split at h
        · exact ih.callF _ _ _ _ _ _ h
        · cases h
      · cases h
    | methodOf t name =>
      simp only [Ab.callV] at h ⊢
      split at h
      · split at h
        · split at h
          · split at h
            · split at h
              · exact ih.callF _ _ _ _ _ _ h
              · cases h
            · cases h
          · split at h
            · exact ih.callF _ _ _ _ _ _ h
            · cases h
        · cases h
      · cases h
    | yield l =>
      simp only [Ab.callV] at h ⊢
      split at h
      · cases h
      · split at h
        · split at h
          · rename_i h1
            rw [if_neg (by assumption)]
            rw [if_pos h1]
            rw [Option.map_eq_some_iff] at h ⊢
            obtain ⟨x, hx, hy⟩ := h
            exact ⟨x, ih.exec _ _ _ _ hx, hy⟩
          · cases h
        · cases h
    | _ => simp [Ab.callV] at h
  · intro base g args H d h
    simp only [Ab.callB] at h ⊢
    split at h
    · cases h
    · split at h
      · cases h
      · split at h
        · rename_i h1
          rw [if_pos h1]
          exact ih.exec _ _ _ _ h
        · cases h


theorem mono_zero (C : Cfg) (P : Program) (m : Nat) : MonoLe C P 0 m := by
  constructor <;> intros <;> rename_i h
  · simp [Ab.exec] at h
  · simp [Ab.leave] at h
  · simp [Ab.endLoop] at h
  · simp [Ab.unw] at h
  · simp [Ab.ops] at h
  · simp [Ab.drawn] at h
  · simp [Ab.dops] at h
  · simp [Ab.callF] at h
  · simp [Ab.callV] at h
  · simp [Ab.callB] at h

theorem monoAt (C : Cfg) (P : Program) (n : Nat) : MonoLe C P n (n + 1) := by
  induction n with
  | zero => exact mono_zero _ _ _
  | succ n ih => exact mono_step ih

end Go.Ab
