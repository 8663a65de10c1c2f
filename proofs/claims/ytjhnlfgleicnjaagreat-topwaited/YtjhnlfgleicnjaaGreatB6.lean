/- Each operation of the abstract evaluator that gives a value is one of the model. -/
import Derived.Test.YtjhnlfgleicnjaaGreatB5
namespace Go.Ab
set_option linter.unusedSimpArgs false
set_option linter.unusedVariables false
section
variable {C:Cfg} {P:Program} {B:Nat} {F:FI} {c:Cx} {e:Env} {a:Act}
theorem v_run (s:Sem Value) {w w':World} {V:Value} (h:s.run P w=.ok V w'):((do pure (Next.value (← s))):Sem Next).run P w=.ok (.value V) w':=by
 simp only [Sem.run_bind,h,Result.andThen_ok,Sem.run_pure]
theorem u_run (s:Sem Unit) {w w':World} (h:s.run P w=.ok () w'):((do s;pure Next.skip):Sem Next).run P w=.ok .skip w':=by
 simp only [Sem.run_bind,h,Result.andThen_ok,Sem.run_pure]
theorem readPart_run {t:TypeId} {ty:Ty} (hty:tyOf P t=some ty) {cs:List AV} {ys:List Value} {off:Nat} {v:AV} (hr:RelL c cs ys) (h:zAy cs off ty=some v):∃ V,(part t ys.toArray off).run P c.w=.ok V c.w∧Rel c v V:=by
 unfold zAy at h
 split at h
 ·rename_i hagg
  split at h
  ·cases h
   refine ⟨.agg ((ys.drop off).take ty.size).toArray,?_,?_⟩
   ·simp only [part,Sem.run_bind,run_isAgg hty,Result.andThen_ok,Sem.run_ite,hagg,if_true,zB1 hty,Sem.run_pure]
    simp [List.extract_eq_take_drop]
   ·simp only [Rel];exact ⟨_,rfl,(hr.drop' off).take' ty.size⟩
  ·cases h
 ·rename_i hagg
  obtain ⟨y,hy,hv⟩:=hr.get h
  exact ⟨y,by simp only [part,Sem.run_bind,run_isAgg hty,Result.andThen_ok,Sem.run_ite,hagg,Bool.false_eq_true,if_false,List.getElem?_toArray,hy,Sem.run_pure],hv⟩
theorem rel_map (ok:Ok C P) (hg:GlobOk c) (he:zBc c e a.tmps):∀ l:List Operand,RelL c (l.map (opd C e)) (l.map a.eval)
 | []=>by simp [RelL]
 | x::l=>by simp only [List.map_cons,RelL];exact ⟨_,_,rfl,rel_opd ok hg he x,rel_map ok hg he l⟩
theorem rel_parts (ok:Ok C P) (hg:GlobOk c) (he:zBc c e a.tmps) (ps:List (Nat×Operand)) :
  (ps.map fun (x:Nat×Operand)=>(x.1,a.eval x.2)).map (·.1)=(ps.map fun (x:Nat×Operand)=>(x.1,opd C e x.2)).map (·.1) ∧
  RelL c ((ps.map fun (x:Nat×Operand)=>(x.1,opd C e x.2)).map (·.2)) ((ps.map fun (x:Nat×Operand)=>(x.1,a.eval x.2)).map (·.2)):=by
 constructor
 ·simp
 ·have:=rel_map ok hg he (ps.map (·.2))
  simpa [List.map_map,Function.comp_def] using this
theorem places_get (ok:Ok C P):∀ (fs:List Field) (i:Nat) (p:Nat×Nat),zAz C (fs.map fun f=>(f.offset,f.type)) i=some p→∃ f y,fs[i]? = some f∧tyOf P f.type=some y∧p=(f.offset,y.size)
 | [],i,p,h=>by simp [zAz] at h
 | f::fs,0,p,h=>by
  simp only [List.map_cons,zAz] at h
  cases hy:C.ty f.type with
  | none=>rw [hy] at h;cases h
  | some y=>rw [hy] at h;cases h;exact ⟨f,y,rfl,ok.ty _ _ hy,rfl⟩
 | f::fs,i+1,p,h=>by
  simp only [List.map_cons,zAz] at h
  simpa using places_get ok fs i p h
end
end Go.Ab
