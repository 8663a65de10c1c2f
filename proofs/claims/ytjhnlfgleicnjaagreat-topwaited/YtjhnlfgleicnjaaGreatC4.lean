/- Operations in the machine's order: the lemma for regions that ask nothing. -/
import Derived.Test.YtjhnlfgleicnjaaGreatC3
namespace Go.Ab
set_option linter.unusedSimpArgs false
set_option linter.unusedVariables false
def frm (F:FI) (tm:Array Value) (todo:List Item) (df:List Deferred) (mo:FrameMode) (u:Up) (rd:Option Nat):Frame :=
 { fn:=F.fn,tmps:=tm,todo,defers:=df,mode:=mo,kind:=u.kind,roundOf:=rd }
section
variable {C:Cfg} {P:Program} {B:Nat} {F:FI} {c:Cx} {e:Env} {a:Act} {tm:Array Value} {df:List Deferred} {rd:Option Nat} {u:Up} {k:List Item} {opl:Array Oper} {cs:List Frame} {w:World}
def putT (tm:Array Value) (dst:Option Tmp) (v:Value):Array Value :=
 match dst with
 | some d=>tm.setIfInBounds d v
 | none=>tm
theorem zBf (tm:Array Value) (dst:Option Tmp) (v:Value):(putT tm dst v).size=tm.size:=by
 cases dst<;>simp [putT]
theorem put_env {v:AV} {V:Value} {dst:Option Tmp} (h:zBc c e tm) (hv:Rel c v V) (hd:∀ d,dst=some d→d<tm.size):zBc c (e.put dst v) (putT tm dst V):=by
 cases dst with
 | none=>exact h
 | some d =>
  intro x
  simp only [Env.put,Env.get,putT]
  have:=hd d rfl
  split
  ·rename_i hx
   subst hx
   simp [Array.getD_eq_getD_getElem?,this,hv]
  ·rename_i hx
   have:=h x
   simpa [Array.getD_eq_getD_getElem?,Array.getElem?_setIfInBounds,hx] using this
theorem frm_eval (todo:List Item) (mo:FrameMode):(frm F tm todo df mo u rd).eval=(Act.mk tm df).eval:=by
 funext x;cases x<;>rfl
theorem step_op (i:Nat) (rest:List Nat) {o:Oper} (ho:opl[i]? = some o) (hw:Region.wanted o (yielded opl tm)=true) (hd:rd=none∨∀ x,o.op≠.defer x) :
  stepG P true { frame:=frm F tm (.inRegion opl (i::rest)::k) df .run u rd,callers:=cs,status:=.running,dying:=none } w =
   stepG.apply P true (frm F tm (.inRegion opl (i::rest)::k) df .run u rd) cs none (execOp (Act.mk tm df).eval o) w:=by
 have he:=frm_eval (F:=F) (tm:=tm) (df:=df) (u:=u) (rd:=rd) (.inRegion opl (i::rest)::k) .run
 simp only [frm] at he
 rcases hd with rfl | hd
 ·simp [stepG,stepG.exec,stepG.oper,Frame.oper?,frm,ho,hw,he]
 ·cases rd with
  | none=>simp [stepG,stepG.exec,stepG.oper,Frame.oper?,frm,ho,hw,he]
  | some b =>
   simp only [stepG,stepG.exec,stepG.oper,Frame.oper?,frm,ho,hw,he,Option.map_some,Option.getD_some,if_true]
   split
   ·rename_i h1 h2;exact absurd h2 (hd _)
   ·rfl
theorem zBh (i:Nat) (rest:List Nat) {o:Oper} (ho:opl[i]? = some o) (v:Value) (mo:FrameMode) :
  (frm F tm (.inRegion opl (i::rest)::k) df mo u rd).finish v=frm F (putT tm o.dst v) (.inRegion opl rest::k) df mo u rd:=by
 simp only [Frame.finish,frm,ho,Option.bind_some,putT]
 cases o.dst<;>rfl
theorem step_skipop (i:Nat) (rest:List Nat) {o:Oper} (ho:opl[i]? = some o) (hw:Region.wanted o (yielded opl tm)=false) :
  step P (lone (frm F tm (.inRegion opl (i::rest)::k) df .run u rd) cs w)=.next (lone (frm F (putT tm o.dst Go.undef) (.inRegion opl rest::k) df .run u rd) cs w):=by
 rw [← zBh i rest ho]
 exact step_lone_go (by simp [stepG,stepG.exec,frm,ho,hw])
theorem step_value (i:Nat) (rest:List Nat) {o:Oper} (ho:opl[i]? = some o) (hw:Region.wanted o (yielded opl tm)=true) (hd:rd=none∨∀ x,o.op≠.defer x)
  {nx:Next} {V:Value} {w':World} (hr:(execOp (Act.mk tm df).eval o).run P w=.ok nx w') (hn:nx=.value V∨(nx=.skip∧V=Go.undef)) :
  step P (lone (frm F tm (.inRegion opl (i::rest)::k) df .run u rd) cs w)=.next (lone (frm F (putT tm o.dst V) (.inRegion opl rest::k) df .run u rd) cs w'):=by
 rw [← zBh i rest ho]
 refine step_lone_go ?_
 rw [step_op i rest ho hw hd]
 rcases hn with rfl | ⟨rfl,rfl⟩<;>simp [stepG.apply,hr]
theorem step_enter (i:Nat) (rest:List Nat) {o:Oper} (ho:opl[i]? = some o) (hw:Region.wanted o (yielded opl tm)=true) (hd:rd=none∨∀ x,o.op≠.defer x)
  {nx:Next} {fr0:Frame} {w':World} (hr:(execOp (Act.mk tm df).eval o).run P w=.ok nx w') (hn:Entry P nx .normal fr0) :
  step P (lone (frm F tm (.inRegion opl (i::rest)::k) df .run u rd) cs w)=.next (lone fr0 (frm F tm (.inRegion opl (i::rest)::k) df .run u rd::cs) w'):=by
 refine step_lone_go ?_
 rw [step_op i rest ho hw hd]
 rcases hn with ⟨f,vs,rfl,rfl⟩ | ⟨l,f,t,x,y,rfl,rfl⟩<;>simp [stepG.apply,hr,frm]
theorem step_panic (i:Nat) (rest:List Nat) {o:Oper} (ho:opl[i]? = some o) (hw:Region.wanted o (yielded opl tm)=true) (hd:rd=none∨∀ x,o.op≠.defer x)
  {V:Value} {w':World} (hr:(execOp (Act.mk tm df).eval o).run P w=.halt (.panic V) w') :
  step P (lone (frm F tm (.inRegion opl (i::rest)::k) df .run u rd) cs w)=.next (lone (frm F tm (.inRegion opl (i::rest)::k) df (.panicking [{ v:=V,recovered:=false }]) u rd) cs w'):=by
 refine step_lone_go ?_
 rw [step_op i rest ho hw hd]
 simp [stepG.apply,hr,frm,Frame.raise]
theorem step_defer (i:Nat) (rest:List Nat) {o:Oper} (ho:opl[i]? = some o) (hw:Region.wanted o (yielded opl tm)=true)
  {d:Deferred} {w':World} (hr:(execOp (Act.mk tm df).eval o).run P w=.ok (.defer d) w') :
  step P (lone (frm F tm (.inRegion opl (i::rest)::k) df .run u none) cs w)=.next (lone (frm F (putT tm o.dst Go.undef) (.inRegion opl rest::k) (d::df) .run u none) cs w'):=by
 rw [← zBh i rest ho]
 refine step_lone_go ?_
 rw [step_op i rest ho hw (.inl rfl)]
 simp [stepG.apply,hr,frm]
theorem step_recover (i:Nat) (rest:List Nat) {o:Oper} (ho:opl[i]? = some o) (hw:Region.wanted o (yielded opl tm)=true) (hd:∀ x,o.op≠.defer x)
  {w':World} (hr:(execOp (Act.mk tm df).eval o).run P w=.ok .recover w') :
  step P (lone (frm F tm (.inRegion opl (i::rest)::k) df .run u none) cs w) =
   match tryRecover (frm F tm (.inRegion opl (i::rest)::k) df .run u none) cs with
   | some (v,cs')=>.next (lone (frm F (putT tm o.dst v) (.inRegion opl rest::k) df .run u none) cs' w')
   | none=>.next (lone (frm F (putT tm o.dst .nilIface) (.inRegion opl rest::k) df .run u none) cs w'):=by
 have h:=step_op (P:=P) (F:=F) (df:=df) (u:=u) (rd:=none) (k:=k) (cs:=cs) (w:=w) i rest ho hw (.inr hd)
 split
 ·rename_i v cs' ht
  rw [← zBh i rest ho]
  refine step_lone_go ?_
  rw [h]
  simp only [stepG.apply,Sem.runT_eq,if_true,hr,GStep.bare_after]
  have:(frm F tm (.inRegion opl (i::rest)::k) df .run u none).roundOf=none:=rfl
  simp only [this,ht,GStep.bare]
 ·rename_i ht
  rw [← zBh i rest ho]
  refine step_lone_go ?_
  rw [h]
  simp only [stepG.apply,Sem.runT_eq,if_true,hr,GStep.bare_after]
  have:(frm F tm (.inRegion opl (i::rest)::k) df .run u none).roundOf=none:=rfl
  simp only [this,ht,GStep.bare]
theorem step_regionEnd:step P (lone (frm F tm (.inRegion opl []::k) df .run u rd) cs w)=.next (lone (frm F tm k df .run u rd) cs w) :=
 step_lone_go (by simp [stepG,stepG.exec,frm])
theorem evZero_val {H:Heap} {t:TypeId} {i:Nat} {x:AV} {r:OpR} (h:evZero P H t i x=some r):∃ v H',r=.val v H':=by
 unfold evZero at h
 split at h
 ·split at h
  ·split at h
   ·cases h;exact ⟨_,_,rfl⟩
   ·cases h
  ·cases h
 ·cases h
theorem evOp_kind {F:FI} {H:Heap} {o:Oper} {r:OpR} (h:evOp C P F H e o=some r):(∃ v H',r=.val v H')∨(∃ cl,o.op=.call cl∧zBi C H e cl=some r) ∨
  (∃ cl f x y,o.op=.defer cl∧zBi C H e cl=some (.call f x y)∧F.round.isNone=true∧r=.dfr (.fn f x y))∨(∃ x t v,o.op=.panic x∧opd C e x=.iface t v∧r=.pan (.iface t v)):=by
 obtain ⟨dst,op,ty0,pos,after,guard⟩:=o
 cases op
 case call cl=>exact .inr (.inl ⟨cl,rfl,h⟩)
 case defer cl =>
  simp only [evOp] at h
  split at h
  ·rename_i f x y hc
   split at h
   ·rename_i hr
    cases h
    exact .inr (.inr (.inl ⟨cl,f,x,y,rfl,hc,hr,rfl⟩))
   ·cases h
  ·cases h
 case panic x =>
  simp only [evOp] at h
  split at h
  ·rename_i t v hx
   cases h
   exact .inr (.inr (.inr ⟨x,t,v,rfl,hx,rfl⟩))
  ·cases h
 case fieldAddr t x i =>
  simp only [evOp] at h
  repeat' split at h
  all_goals first
   | (cases h;done)
   | exact .inl (evZero_val h)
   | (simp only [Option.map_eq_some_iff] at h;obtain ⟨_,_,rfl⟩:=h;exact .inl ⟨_,_,rfl⟩)
 case makeMap t m =>
  cases m with
  | some _=>cases h
  | none =>
   simp only [evOp] at h
   split at h
   ·cases h;exact .inl ⟨_,_,rfl⟩
   ·cases h
 case slice t x lo hi mx =>
  cases mx with
  | some _=>cases h
  | none =>
   simp only [evOp] at h
   repeat' split at h
   all_goals first
    | (cases h;done)
    | (cases h;exact .inl ⟨_,_,rfl⟩)
 all_goals
  simp only [evOp] at h
  try (cases h;done)
  try (repeat' split at h)
  all_goals first
   | (cases h;done)
   | (cases h;exact .inl ⟨_,_,rfl⟩)
   | (simp only [Option.map_eq_some_iff] at h;obtain ⟨_,_,rfl⟩:=h;exact .inl ⟨_,_,rfl⟩)
theorem evBuiltin_kind {H:Heap} {b:Builtin} {tys:List TypeId} {args:List AV} {r:OpR} (h:zAv C H b tys args=some r) :
  (∃ v H',r=.val v H')∨(b=.panic∧∃ t v,args=[.iface t v]∧r=.pan (.iface t v))∨(b=.recover∧args=[]∧r=.recov):=by
 cases b<;>simp only [zAv] at h<;>try (cases h;done)
 case panic =>
  split at h
  ·cases h;exact .inr (.inl ⟨rfl,_,_,rfl,rfl⟩)
  ·cases h
 case recover =>
  split at h
  ·cases h;exact .inr (.inr ⟨rfl,rfl,rfl⟩)
  ·cases h
 all_goals
  try unfold lenM at h
  try (repeat' split at h)
  all_goals first
   | (cases h;done)
   | (cases h;exact .inl ⟨_,_,rfl⟩)
   | (simp only [Option.map_eq_some_iff] at h;obtain ⟨_,_,rfl⟩:=h;exact .inl ⟨_,_,rfl⟩)
theorem evCallee_kind {H:Heap} {cl:Call} {r:OpR} (h:zBi C H e cl=some r) :
  (∃ v H',r=.val v H')∨(∃ f x y,r=.call f x y)∨(cl.callee=.builtin .panic∧∃ t v,cl.args.toList.map (opd C e)=[.iface t v]∧r=.pan (.iface t v))∨(cl.callee=.builtin .recover∧cl.args.toList.map (opd C e)=[]∧r=.recov):=by
 obtain ⟨callee,args,tys⟩:=cl
 simp only [zBi] at h
 cases callee with
 | builtin b =>
  rcases evBuiltin_kind h with g | ⟨rfl,g⟩ | ⟨rfl,g⟩
  ·exact .inl g
  ·exact .inr (.inr (.inl ⟨rfl,g⟩))
  ·exact .inr (.inr (.inr ⟨rfl,g⟩))
 | invoke r n=>cases h;exact .inr (.inl ⟨_,_,_,rfl⟩)
 | value f =>
  simp only at h
  split at h
  ·cases h;exact .inr (.inl ⟨_,_,_,rfl⟩)
  ·cases h
theorem zB5 {F:FI} {H:Heap} {o:Oper} {r:OpR} (h:evOp C P F H e o=some r) (hr:∀ d,r≠.dfr d):∀ x,o.op≠.defer x:=by
 intro x hx
 rcases evOp_kind h with ⟨v,H',rfl⟩ | ⟨cl,h1,_⟩ | ⟨cl,f,y,z,_,_,_,rfl⟩ | ⟨y,t,v,h1,_⟩
 ·simp only [evOp,hx] at h
  split at h
  ·split at h<;>cases h
  ·cases h
 ·rw [hx] at h1;cases h1
 ·exact hr _ rfl
 ·rw [hx] at h1;cases h1
theorem evOp_pan (ok:Ok C P) (hg:GlobOk c) (he:zBc c e tm) {o:Oper} {v:AV} (h:evOp C P F c.H e o=some (.pan v)):∃ V,(execOp (Act.mk tm df).eval o).run P c.w=.halt (.panic V) c.w∧Rel c v V:=by
 have hρ:=fun x=>rel_opd (a:=Act.mk tm df) ok hg he x
 rcases evOp_kind h with ⟨v,H',h1⟩ | ⟨cl,h1,h2⟩ | ⟨cl,f,y,z,_,_,_,h1⟩ | ⟨y,t,v,h1,h2,h3⟩
 ·cases h1
 ·rcases evCallee_kind h2 with ⟨_,_,h3⟩ | ⟨_,_,_,h3⟩ | ⟨hcl,t,x,hargs,h3⟩ | ⟨_,_,h3⟩
  ·cases h3
  ·cases h3
  ·cases h3
   have hr:=rel_map ok hg he cl.args.toList (a:=Act.mk tm df)
   rw [hargs] at hr
   simp only [RelL] at hr
   obtain ⟨y,s,hy,hx,rfl⟩:=hr
   have hv:=hx
   simp only [Rel] at hx
   obtain ⟨z,rfl,hz⟩:=hx
   refine ⟨.iface t z,?_,hv⟩
   have hm:cl.args.map (Act.mk tm df).eval=#[.iface t z]:=Array.ext' (by simpa using hy)
   simp only [execOp,h1,resolve,hcl,Sem.run_bind,Sem.run_pure,Result.andThen_ok,invoke,builtin,hm]
   rfl
  ·cases h3
 ·cases h1
 ·cases h3
  have hx:=hρ y
  rw [h2] at hx
  have hv:=hx
  simp only [Rel] at hx
  obtain ⟨z,hz,_⟩:=hx
  refine ⟨.iface t z,?_,hz ▸ hv⟩
  simp only [execOp,h1,hz,Instr.panic,Sem.run_bind]
  rfl
theorem evOp_recov {o:Oper} (h:evOp C P F c.H e o=some .recov):(execOp (Act.mk tm df).eval o).run P c.w=.ok .recover c.w:=by
 rcases evOp_kind h with ⟨v,H',h1⟩ | ⟨cl,h1,h2⟩ | ⟨cl,f,y,z,_,_,_,h1⟩ | ⟨y,t,v,h1,h2,h3⟩
 ·cases h1
 ·rcases evCallee_kind h2 with ⟨_,_,h3⟩ | ⟨_,_,_,h3⟩ | ⟨hcl,t,x,hargs,h3⟩ | ⟨hcl,hargs,_⟩
  ·cases h3
  ·cases h3
  ·cases h3
  ·simp only [execOp,h1,resolve,hcl,Sem.run_bind,Sem.run_pure,Result.andThen_ok,invoke,builtin]
 ·cases h1
 ·cases h3
theorem evOp_dfr (ok:Ok C P) (hg:GlobOk c) (he:zBc c e tm) {o:Oper} {d:ADefer} (h:evOp C P F c.H e o=some (.dfr d)):F.round=none∧∃ D,(execOp (Act.mk tm df).eval o).run P c.w=.ok (.defer D) c.w∧∃ f x y,d=.fn f x y∧RelT c f x y D:=by
 rcases evOp_kind h with ⟨v,H',h1⟩ | ⟨cl,h1,h2⟩ | ⟨cl,f,y,z,h1,h2,h3,h4⟩ | ⟨y,t,v,h1,h2,h3⟩
 ·cases h1
 ·rcases evCallee_kind h2 with ⟨_,_,h3⟩ | ⟨_,_,_,h3⟩ | ⟨_,_,_,_,h3⟩ | ⟨_,_,h3⟩<;>cases h3
 ·cases h4
  obtain ⟨D,h5,h6⟩:=callee_run ok hg he (a:=Act.mk tm df) (ty:=o.type) h2
  refine ⟨by simpa using h3,D,?_,f,y,z,rfl,h6⟩
  simp only [execOp,h1,Sem.run_bind,h5,Result.andThen_ok,Sem.run_pure]
 ·cases h3
theorem evOp_call (ok:Ok C P) (hg:GlobOk c) (he:zBc c e tm) {o:Oper} {f:Fn} {x y:List AV} (h:evOp C P F c.H e o=some (.call f x y)) :
  ∃ D,RelT c f x y D∧∀ w r,(invoke D.target D.args).run P c.w=r→w=c.w→(execOp (Act.mk tm df).eval o).run P w=r:=by
 rcases evOp_kind h with ⟨v,H',h1⟩ | ⟨cl,h1,h2⟩ | ⟨cl,f,y,z,h1,h2,h3,h4⟩ | ⟨y,t,v,h1,h2,h3⟩
 ·cases h1
 ·obtain ⟨D,h5,h6⟩:=callee_run ok hg he (a:=Act.mk tm df) (ty:=o.type) h2
  refine ⟨D,h6,?_⟩
  rintro w r hr rfl
  simp only [execOp,h1,Sem.run_bind,h5,Result.andThen_ok,hr]
 ·cases h4
 ·cases h3
end
end Go.Ab
