/- Each operation of the abstract evaluator is one of the model: arithmetic, comparison. -/
import Derived.Test.YtjhnlfgleicnjaaGreatA5
namespace Go.Ab
set_option linter.unusedSimpArgs false
set_option linter.unusedVariables false
section
variable {C:Cfg} {P:Program} {B:Nat} {F:FI} {c:Cx} {e:Env} {a:Act}
theorem bits_run {op:BinOp} {k:IntKind} {x y n:Int} (h:bitsOp op k x y=some n) (w:World):(Op.intBits op k x y).run P w=.ok (.int k n) w:=by
 cases op<;>simp only [bitsOp] at h<;>cases h<;>simp [Op.intBits]
theorem guardInt (op:BinOp) (t:TypeId) (ox oy:Operand) (k k':IntKind) (a b:Int) (w:World):(eqGuard op t ox oy (.int k a) (.int k' b)).run P w=.ok () w:=by
 cases op<;>simp [eqGuard]
theorem guardBool (op:BinOp) (t:TypeId) (ox oy:Operand) (a b:Bool) (w:World):(eqGuard op t ox oy (.bool a) (.bool b)).run P w=.ok () w:=by
 cases op<;>simp [eqGuard]
theorem evBin_int {op:BinOp} {q:Bool} {t:TypeId} {k k':IntKind} {m n:Int} {v:AV} (h:evBin op q (.int k m) (.int k' n)=some v) (w:World) :
  ∃ V,(binOp op t (.int k m) (.int k' n)).run P w=.ok V w∧∀ c,Rel c v V:=by
 cases op
 case shl =>
  simp only [evBin] at h
  split at h
  ·cases h
  ·rename_i hb;cases h
   exact ⟨.int k (k.wrap (m*2^(min n.toNat k.bits))),by simp [binOp,Op.shift,hb],fun c=>by simp [Rel]⟩
 case shr =>
  simp only [evBin] at h
  split at h
  ·cases h
  ·rename_i hb;cases h
   exact ⟨.int k (m.fdiv (2^(min n.toNat k.bits))),by simp [binOp,Op.shift,hb],fun c=>by simp [Rel]⟩
 case quo =>
  simp only [evBin] at h
  split at h
  ·rename_i hk;simp only [beq_iff_eq] at hk;subst hk
   split at h
   ·cases h
   ·rename_i hb;cases h
    exact ⟨.int k (k.wrap (m.tdiv n)),by simp [binOp,Op.intDiv,hb],fun c=>by simp [Rel]⟩
  ·cases h
 case rem =>
  simp only [evBin] at h
  split at h
  ·rename_i hk;simp only [beq_iff_eq] at hk;subst hk
   split at h
   ·cases h
   ·rename_i hb;cases h
    exact ⟨.int k (m.tmod n),by simp [binOp,Op.intDiv,hb],fun c=>by simp [Rel]⟩
  ·cases h
 case and | or | xor | andNot =>
  simp only [evBin] at h
  split at h
  ·rename_i hk;simp only [beq_iff_eq] at hk;subst hk
   generalize hb:bitsOp _ k m n=r at h
   cases r with
   | none=>cases h
   | some r =>
    simp only [Option.map_some,Option.some.injEq] at h
    subst h
    exact ⟨.int k r,by simp only [binOp];rw [if_neg (by simp)];exact bits_run hb w,fun c=>by simp [Rel]⟩
  ·cases h
 all_goals
  simp only [evBin] at h
  split at h
  ·rename_i hk;simp only [beq_iff_eq] at hk;subst hk
   simp only [Option.some.injEq] at h;subst h
   refine ⟨?_,?_,fun c=>?_⟩
   rotate_left
   ·simp only [binOp,Op.intArith,Op.intCmp];rw [if_neg (by simp)];exact rfl
   ·simp [Rel]
  ·cases h
theorem evBin_run {op:BinOp} {t:TypeId} {x y:AV} {X Y:Value} {v:AV} {ox oy:Operand} (ok:Ok C P) (h:evBin op (eqOk C t x y) x y=some v) (hx:Rel c x X) (hy:Rel c y Y) :
  ∃ V,(do eqGuard op t ox oy X Y;binOp op t X Y:Sem Value).run P c.w=.ok V c.w∧Rel c v V:=by
 cases x<;>cases y<;>try (simp only [evBin] at h;cases h;done)
 case int.int k m k' n =>
  simp only [Rel] at hx hy;subst hx hy
  obtain ⟨V,h1,h2⟩:=evBin_int (t:=t) h c.w
  exact ⟨V,by simp only [Sem.run_bind,guardInt,Result.andThen_ok];exact h1,h2 c⟩
 case bool.bool m n =>
  simp only [evBin] at h
  split at h
  ·rename_i hq
   simp only [eqOk,Bool.and_eq_true] at hq
   obtain ⟨ks,hk,f1,e1,_⟩:=eqFit_rel ok hq.1 hx
   obtain ⟨ks',hk',f2,e2,_⟩:=eqFit_rel ok hq.2 hy
   rw [hk] at hk';cases hk'
   have hrun:=run_equal_cells (P:=P) 8 t ks _ _ hk f1 f2 10000 (by omega) c.w
   rw [← e1,← e2] at hrun
   simp only [Rel] at hx hy;subst hx hy
   simp only [Sem.run_bind,guardBool,Result.andThen_ok]
   cases op<;>simp only at h<;>cases h
   ·exact ⟨.bool (m==n),by simp [binOp,Op.equal,Op.maxDepth,hrun,AV.cells,zBd,AV.same],by simp [Rel]⟩
   ·exact ⟨.bool (m != n),by simp [binOp,Op.equal,Op.maxDepth,hrun,AV.cells,zBd,AV.same,bne],by simp [Rel]⟩
  ·cases h
 case agg.agg xs ys =>
  simp only [evBin] at h
  split at h
  ·rename_i hq
   simp only [eqOk,Bool.and_eq_true] at hq
   obtain ⟨ks,hk,f1,e1,hg⟩:=eqFit_rel ok hq.1 hx
   obtain ⟨ks',hk',f2,e2,_⟩:=eqFit_rel ok hq.2 hy
   rw [hk] at hk';cases hk'
   have hrun:=run_equal_cells (P:=P) 8 t ks _ _ hk f1 f2 10000 (by omega) c.w
   rw [← e1,← e2] at hrun
   simp only [Rel] at hx hy
   obtain ⟨X,rfl,hx⟩:=hx
   obtain ⟨Y,rfl,hy⟩:=hy
   simp only [Sem.run_bind,run_eqGuard_agg c.w op t ox oy X Y hg,Result.andThen_ok]
   cases op<;>simp only at h<;>cases h
   ·exact ⟨.bool (zBd xs ys),by simp [binOp,Op.equal,Op.maxDepth,hrun,AV.cells],by simp [Rel]⟩
   ·exact ⟨.bool (!zBd xs ys),by simp [binOp,Op.equal,Op.maxDepth,hrun,AV.cells],by simp [Rel]⟩
  ·cases h
theorem equalIn_nil {t:TypeId} {ms:Array (String×TypeId)} (hu:P.underlying t=some (.interface ms)) (d:Nat) (w:World):(Op.equalIn (d+1) t .nilIface .nilIface).run P w=.ok true w:=by
 simp only [Op.equalIn,Sem.run_bind,zA9 hu,Result.andThen_ok,Sem.run_pure]
theorem equalIn_nil_l {t:TypeId} {ms:Array (String×TypeId)} (hu:P.underlying t=some (.interface ms)) (d:Nat) (u:TypeId) (v:Value) (w:World):(Op.equalIn (d+1) t .nilIface (.iface u v)).run P w=.ok false w:=by
 simp only [Op.equalIn,Sem.run_bind,zA9 hu,Result.andThen_ok,Sem.run_pure]
theorem equalIn_nil_r {t:TypeId} {ms:Array (String×TypeId)} (hu:P.underlying t=some (.interface ms)) (d:Nat) (u:TypeId) (v:Value) (w:World):(Op.equalIn (d+1) t (.iface u v) .nilIface).run P w=.ok false w:=by
 simp only [Op.equalIn,Sem.run_bind,zA9 hu,Result.andThen_ok,Sem.run_pure]
theorem equal_nil {t:TypeId} {ms:Array (String×TypeId)} (hu:P.underlying t=some (.interface ms)) (w:World):(Op.equal t .nilIface .nilIface).run P w=.ok true w:=equalIn_nil hu 9999 w
theorem equal_nil_l {t:TypeId} {ms:Array (String×TypeId)} (hu:P.underlying t=some (.interface ms)) (u:TypeId) (v:Value) (w:World):(Op.equal t .nilIface (.iface u v)).run P w=.ok false w:=equalIn_nil_l hu 9999 u v w
theorem equal_nil_r {t:TypeId} {ms:Array (String×TypeId)} (hu:P.underlying t=some (.interface ms)) (u:TypeId) (v:Value) (w:World):(Op.equal t (.iface u v) .nilIface).run P w=.ok false w:=equalIn_nil_r hu 9999 u v w
theorem binOp_eql_nil (t:TypeId) (Y:Value):binOp .eql t .nilIface Y=(do pure (.bool (← Op.equal t .nilIface Y))):=by cases Y<;>rfl
theorem binOp_neq_nil (t:TypeId) (Y:Value):binOp .neq t .nilIface Y=(do pure (.bool (!(← Op.equal t .nilIface Y)))):=by cases Y<;>rfl
theorem binOp_eql_if (t u:TypeId) (v Y:Value):binOp .eql t (.iface u v) Y=(do pure (.bool (← Op.equal t (.iface u v) Y))):=by cases Y<;>rfl
theorem binOp_neq_if (t u:TypeId) (v Y:Value):binOp .neq t (.iface u v) Y=(do pure (.bool (!(← Op.equal t (.iface u v) Y)))):=by cases Y<;>rfl
theorem guardNil (op:BinOp) (t:TypeId) {ox oy:Operand} (hc:(isConst ox||isConst oy)=true) (w:World):(eqGuard op t ox oy .nilIface .nilIface).run P w=.ok () w:=by
 cases op<;>cases ox<;>cases oy<;>simp [isConst] at hc<;>simp [eqGuard]
theorem guardIf (op:BinOp) (t u:TypeId) (ox oy:Operand) (v:Value) (w:World):(eqGuard op t ox oy (.iface u v) .nilIface).run P w=.ok () w:=by
 cases op<;>simp [eqGuard]
theorem guardIf' (op:BinOp) (t u:TypeId) (ox oy:Operand) (v:Value) (w:World):(eqGuard op t ox oy .nilIface (.iface u v)).run P w=.ok () w:=by
 cases op<;>simp [eqGuard]
theorem evNil_run {op:BinOp} {t:TypeId} {x y:AV} {X Y:Value} {v:AV} {ox oy:Operand} (h:evNil P op t (isConst ox||isConst oy) x y=some v) (hx:Rel c x X) (hy:Rel c y Y) :
  ∃ V,(do eqGuard op t ox oy X Y;binOp op t X Y:Sem Value).run P c.w=.ok V c.w∧Rel c v V:=by
 unfold evNil at h
 split at h
 ·rename_i ms hu
  split at h
  ·simp only [Rel] at hx hy;subst hx hy
   split at h
   ·rename_i hcc
    cases h
    exact ⟨.bool true,by simp only [Sem.run_bind,guardNil _ _ hcc,Result.andThen_ok,binOp_eql_nil,equal_nil hu,Sem.run_pure],by simp [Rel]⟩
   ·cases h
  ·simp only [Rel] at hx hy;subst hx hy
   split at h
   ·rename_i hcc
    cases h
    exact ⟨.bool false,by simp only [Sem.run_bind,guardNil _ _ hcc,Result.andThen_ok,binOp_neq_nil,equal_nil hu,Sem.run_pure,Bool.not_true],by simp [Rel]⟩
   ·cases h
  ·simp only [Rel] at hx hy
   obtain ⟨z,rfl,_⟩:=hx;subst hy;cases h
   exact ⟨.bool false,by simp only [Sem.run_bind,guardIf,Result.andThen_ok,binOp_eql_if,equal_nil_r hu,Sem.run_pure],by simp [Rel]⟩
  ·simp only [Rel] at hx hy
   obtain ⟨z,rfl,_⟩:=hx;subst hy;cases h
   exact ⟨.bool true,by simp only [Sem.run_bind,guardIf,Result.andThen_ok,binOp_neq_if,equal_nil_r hu,Sem.run_pure,Bool.not_false],by simp [Rel]⟩
  ·simp only [Rel] at hx hy
   obtain ⟨z,rfl,_⟩:=hy;subst hx;cases h
   exact ⟨.bool false,by simp only [Sem.run_bind,guardIf',Result.andThen_ok,binOp_eql_nil,equal_nil_l hu,Sem.run_pure],by simp [Rel]⟩
  ·simp only [Rel] at hx hy
   obtain ⟨z,rfl,_⟩:=hy;subst hx;cases h
   exact ⟨.bool true,by simp only [Sem.run_bind,guardIf',Result.andThen_ok,binOp_neq_nil,equal_nil_l hu,Sem.run_pure,Bool.not_false],by simp [Rel]⟩
  ·cases h
 ·cases h
theorem evUn_run {op:UnOp} {x v:AV} {X:Value} (h:evUn op x=some v) (hx:Rel c x X):∃ V,(Op.unary op X).run P c.w=.ok V c.w∧Rel c v V:=by
 unfold evUn at h
 split at h
 ·rename_i k n
  simp only [Rel] at hx;subst hx;cases h
  exact ⟨.int k (k.wrap (0-n)),by simp [Op.unary,Op.intArith],by simp [Rel]⟩
 ·rename_i k n
  simp only [Rel] at hx;subst hx
  generalize hb:bitsOp .xor k (if k.signed then -1 else k.max) n=r at h
  cases r with
  | none=>cases h
  | some r =>
   simp only [Option.map_some,Option.some.injEq] at h;subst h
   exact ⟨.int k r,by simp only [Op.unary];exact bits_run hb c.w,by simp [Rel]⟩
 ·simp only [Rel] at hx;subst hx;cases h
  exact ⟨_,by simp only [Op.unary];rfl,by simp [Rel]⟩
 ·cases h
end
end Go.Ab
