/- From the evaluator to the kit's own words: a call comes back, with what the evaluator says, and writes nothing that was there. -/
import Derived.Test.YtjhnlfgleicnjaaGreatD8
import Derived.Below
namespace Go.Ab
set_option linter.unusedSimpArgs false
set_option linter.unusedVariables false
open Go.RowKit
def Cx.start (W:World):Cx:=⟨W,fun _=>none,[]⟩
theorem start_sim (P:Program) (W:World) (hg:GlobOk (Cx.start W)):Sim P W.heap.size (Cx.start W) where
 obj _ _ h:=by cases h
 inj _ _ _ h:=by cases h
 lo _ _ h:=by cases h
 glob:=hg
theorem below_of {base:Nat} {W:World} {c':Cx} {tb:Nat} (h:TrB tb base (Cx.start W) c'):Below W.heap.size W c'.w where
 os:=h.sys.1
 tape:=h.sys.2.1
 output:=h.sys.2.2
 size:=h.size
 block k hk:=(h.kept k hk (by rintro ⟨l,hl⟩;cases hl)).2
theorem calls_of {C:Cfg} {P:Program} (ok:Ok C P) {n:Nat} {f:FuncId} {args:List AV} {vals:List Value} {W:World} {d:Done} {v:AV} (h:callF C P n false f args [] none=some d) (hd:d.out=.ret v)
  (hg:GlobOk (Cx.start W)) (hr:RelL (Cx.start W) args vals):Calls P f vals.toArray W fun e w'=>∃ c' V,e=.returned V∧Rel c' v V∧c'.w=w'∧Below W.heap.size W w':=by
 intro cs
 have hall:=sound (B:=W.heap.size) ok n
 obtain ⟨c',fr',m',wl,e,h1,h2,⟨h3,h4,h5⟩,h6,h7,h8,h9,h10,_⟩:=hall.2.2.2.2.2.2.2.1 false f args [] none d h 0 (Cx.start W) vals (.plain cs) .returning Go.undef rfl (start_sim P W hg) ⟨Nat.le_refl _,fun l o hl=>by omega,fun l o ho=>by simp [Cx.start] at ho⟩ (Nat.le_refl _) hr rfl rfl (fun _ _ e=>by cases e)
 rw [hd] at h6
 cases e with
 | pan _=>exact h6.elim
 | ret V =>
  have hk:fr'.kind=.normal:=h3
  rcases h5 with hround | ⟨k1,k2,k3,V',fn,k0,k4,k5⟩
  ·rcases h2 with ⟨_,k1,k2,k3,fn,k4,k5⟩ | ⟨k,_⟩
   ·exact ⟨.returned V,wl,fr',⟨c',V,rfl,h6,k3,k3 ▸ below_of h9⟩,h1,h4,k1,k2,hk,fn,k4,k5⟩
   ·exact absurd hround k
  ·cases k0
   exact ⟨.returned V,wl,fr',⟨c',V,rfl,h6,k3,k3 ▸ below_of h9⟩,h1,h4,k1,k2,hk,fn,k4,k5⟩
theorem calls_true {C:Cfg} {P:Program} (ok:Ok C P) {n:Nat} {f:FuncId} {args:List AV} {vals:List Value} {W:World} {d:Done} (h:callF C P n false f args [] none=some d) (hd:d.out=.ret (.bool true))
  (hg:GlobOk (Cx.start W)) (hr:RelL (Cx.start W) args vals):Calls P f vals.toArray W fun e w'=>e=.returned (.bool true)∧Below W.heap.size W w' :=
 (calls_of ok h hd hg hr).mono fun e w' ⟨c',V,h1,h2,_,h3⟩=>by
  simp only [Rel] at h2
  exact ⟨by rw [h1,h2],h3⟩
end Go.Ab
