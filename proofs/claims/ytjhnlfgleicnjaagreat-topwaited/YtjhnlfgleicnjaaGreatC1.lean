/- Calls of the abstract evaluator: what the model's 'resolve' and 'invoke' do there; how a frame is left. -/
import Derived.Test.YtjhnlfgleicnjaaGreatB8
namespace Go.Ab
set_option linter.unusedSimpArgs false
set_option linter.unusedVariables false
section
variable {C:Cfg} {P:Program} {B:Nat} {F:FI} {c:Cx} {e:Env} {a:Act}
def Entry (P:Program) (nx:Next) (kind:CallKind) (fr:Frame):Prop :=
 (∃ f vs,nx=.enter f vs∧fr=Frame.enter P f vs kind)∨(∃ l f t x y,nx=.round l f t x y∧fr=Frame.round l f t x y kind)
def RelT (c:Cx) (f:Fn) (args cap:List AV) (d:Deferred):Prop:=∃ g k,d.target=.fn g k∧RelFn c f g∧RelL c args d.args.toList∧RelL c cap k.toList
theorem callee_run (ok:Ok C P) (hgl:GlobOk c) (he:zBc c e a.tmps) {cl:Call} {ty:TypeId} {f:Fn} {x y:List AV} (h:zBi C c.H e cl=some (.call f x y)) :
  ∃ d,(resolve a.eval cl ty).run P c.w=.ok d c.w∧RelT c f x y d:=by
 obtain ⟨callee,args,tys⟩:=cl
 have hr:=rel_map ok hgl he args.toList
 simp only [zBi] at h
 cases callee with
 | builtin b =>
  exfalso
  simp only at h
  cases b<;>simp only [zAv] at h<;>try (cases h;done)
  all_goals
   split at h<;>first
    | (cases h;done)
    | (simp only [Option.map_eq_some_iff] at h;obtain ⟨_,_,h⟩:=h;cases h;done)
    | (unfold lenM at h;(repeat' split at h);all_goals (cases h;done))
    | ((repeat' split at h);all_goals (cases h;done))
 | invoke r n =>
  simp only [Option.some.injEq,OpR.call.injEq] at h
  obtain ⟨rfl,rfl,rfl⟩:=h
  refine ⟨⟨.fn (.method n) #[],#[a.eval r]++args.map a.eval⟩,rfl,.method n,#[],rfl,by simp [RelFn],?_,by simp [RelL]⟩
  simp only [RelL]
  exact ⟨a.eval r,(args.map a.eval).toList,by simp,rel_opd ok hgl he r,by simpa using hr⟩
 | value g =>
  simp only at h
  split at h
  ·rename_i fn first cap hg
   simp only [Option.some.injEq,OpR.call.injEq] at h
   obtain ⟨rfl,rfl,rfl⟩:=h
   have hG:=rel_opd ok hgl he g
   rw [hg] at hG
   simp only [Rel] at hG
   obtain ⟨g',a',b',hG,h1,h2,h3⟩:=hG
   refine ⟨⟨.fn g' b',a'++args.map a.eval⟩,by simp only [resolve,hG,Deferred.ofValue,Sem.run_pure],g',b',rfl,h1,?_,h3⟩
   simp only [Array.toList_append,Array.toList_map]
   exact h2.append hr
  ·cases h
theorem method_run {t:TypeId} {name:String} {f:FuncId} (h:methodOf P t name=some f) (v:Value) (w:World) (n:Nat) :
  (method (n+1) t v name).run P w=.ok (f,v) w:=by
 unfold methodOf at h
 split at h
 ·rename_i i d hi hd
  have hti:(typeInfo t).run P w=.ok i w:=by simp [typeInfo,hi]
  have key:(∀ el,d≠.pointer el)→(match i.methods.find? (·.name==name) with
   | some m=>if m.path.isEmpty then (match m.func with
    | some (f,false)=>some f
    | _=>none) else none
   | none=>none)=some f→(method (n+1) t v name).run P w=.ok (f,v) w:=by
   intro hp h
   split at h
   ·rename_i m hm
    split at h
    ·rename_i hpa
     split at h
     ·rename_i g hg
      cases h
      have hl:m.path.toList=[]:=by simpa using hpa
      simp only [method,Sem.run_bind,hti,Result.andThen_ok,hm,hl,follow,Sem.run_pure,hg,receiverAt,zA9 hd]
      cases d<;>first | (exact absurd rfl (hp _)) | simp [Place.get]
     ·cases h
    ·cases h
   ·cases h
  cases d
  case pointer=>cases h
  all_goals exact key (by simp) h
 ·cases h
theorem callFunc_run {g:FuncId} {fn:Func} (h1:P.funcs[g]? = some fn) (h2:fn.name ≠ "runtime.NumGoroutine") (h3:fn.body.isSome=true) (args:Array Value) (w:World) :
  (callFunc g args).run P w=.ok (.enter g args) w:=by
 have:(fn.name == "runtime.NumGoroutine")=false:=by simpa using h2
 have h4:fn.body.isNone=false:=by cases hb:fn.body<;>simp_all
 simp only [callFunc,Sem.run_bind,show (program).run P w=.ok P w from rfl,Result.andThen_ok,h1,this,h4,Bool.false_eq_true,if_false,Sem.run_pure]
theorem callMethod_run (ok:Ok C P) {t:TypeId} {name:String} {g:FuncId} {fn:Func} (hm:C.meth t name=some g) (h1:P.funcs[g]? = some fn) (h2:fn.name ≠ "runtime.NumGoroutine") (h3:fn.body.isSome=true) (v:Value) (args:Array Value) (w:World) :
  (callMethod (.iface t v) name args).run P w=.ok (.enter g (#[v]++args)) w:=by
 have hh:P.types.size+Made.depth=(P.types.size+Made.depth-1)+1:=by
  have:0<Made.depth:=by decide
  omega
 simp only [callMethod,Sem.run_bind,show (program).run P w=.ok P w from rfl,Result.andThen_ok]
 rw [hh,method_run (ok.meth _ _ _ hm) v w]
 simp only [Result.andThen_ok]
 exact callFunc_run h1 h2 h3 _ w
inductive Fate where
 | ret (v:Value)
 | pan (v:Value)
def Gone (P:Program) (fr:Frame) (w:World):Fate→World→Prop
 | .ret v,w'=>(fr.roundOf=none∧fr.mode=.returning∧fr.defers=[]∧w'=w∧∃ fn,P.funcs[fr.fn]? = some fn∧(results fn fr.tmps).run P w=.ok v w) ∨
   (fr.roundOf≠none∧∀ cs,(stepG P true { frame:=fr,callers:=cs,status:=.running,dying:=none } w).bare=(doReturn P true fr cs none v w').bare)
 | .pan v,w'=>fr.mode=.panicking [{ v,recovered:=false }]∧fr.defers=[]∧w'=w∧∃ fn,P.funcs[fr.fn]? = some fn
theorem Gone.eq {fr:Frame} {w w':World} {v:Value} (h:Gone P fr w (.ret v) w') (cs:List Frame) :
  (stepG P true { frame:=fr,callers:=cs,status:=.running,dying:=none } w).bare=(doReturn P true fr cs none v w').bare:=by
 rcases h with ⟨_,h2,h3,rfl,fn,hf,hr⟩ | ⟨_,h⟩
 ·simp [stepG,unwind,h2,h3,hf,hr]
 ·exact h cs
theorem Gone.normal {fr:Frame} {w w':World} {v:Value} (h:Gone P fr w (.ret v) w') (hk:fr.kind=.normal) (x:Frame) (cs:List Frame) :
  step P (lone fr (x::cs) w)=.next (lone (x.finish v) cs w'):=by
 refine step_lone_go ?_
 rw [h.eq]
 simp [doReturn,hk]
theorem Gone.deferred {fr:Frame} {w w':World} {v:Value} (h:Gone P fr w (.ret v) w') (hk:fr.kind=.deferred) (x:Frame) (cs:List Frame)
  (hm:x.mode=.returning∨∃ u,x.mode=.panicking [{ v:=u,recovered:=false }]) :
  step P (lone fr (x::cs) w)=.next (lone x cs w'):=by
 refine step_lone_go ?_
 rw [h.eq]
 rcases hm with hm | ⟨u,hm⟩<;>simp [doReturn,hk,hm]
theorem Gone.recovered {fr:Frame} {w w':World} {v:Value} (h:Gone P fr w (.ret v) w') (hk:fr.kind=.deferred) (x:Frame) (cs:List Frame) {u:Value}
  (hm:x.mode=.panicking [{ v:=u,recovered:=true }]) :
  step P (lone fr (x::cs) w)=.next (lone { x with mode:=.returning } cs w'):=by
 refine step_lone_go ?_
 rw [h.eq]
 simp [doReturn,hk,hm]
theorem Gone.panics {fr:Frame} {w w':World} {v:Value} (h:Gone P fr w (.pan v) w') (x:Frame) (cs:List Frame) :
  step P (lone fr (x::cs) w)=.next (lone (x.raise [{ v,recovered:=false }]) cs w'):=by
 obtain ⟨h1,h2,rfl,fn,hf⟩:=h
 refine step_lone_go ?_
 simp [stepG,unwind,h1,h2,Frame.catches,hf]
end
end Go.Ab
