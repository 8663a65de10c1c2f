/- Code: the evaluator's run is the machine's. -/
import Derived.Test.YtjhnlfgleicnjaaGreatC7
namespace Go.Ab
set_option linter.unusedSimpArgs false
set_option linter.unusedVariables false
section
variable {C:Cfg} {P:Program} {B:Nat} {F:FI} {c:Cx} {e:Env} {tm:Array Value} {df:List Deferred} {rd:Option Nat} {u:Up} {todo k:List Item} {cs:List Frame} {w:World} {s:St} {d:Done}
def OpsOk (C:Cfg) (P:Program) (B n:Nat):Prop:=∀ F all rest s r,ops C P n F all rest s=some r→∀ (opl:Array Oper) i k c tm df rd (u:Up) m V,all=opl.toList→rest=all.drop i→(∀ o∈all,dstOk tm.size o) →
   FOk P B c F s tm df rd k→u.isDfd=F.dfd→PanM V s.pan m→Pans c V s.pan→OpsFin P B F c u rd (frm F tm (.inRegion opl (List.range' i (opl.size-i))::k) df .run u rd) m V s opl k r
def DrawnOk (C:Cfg) (P:Program) (B n:Nat):Prop:=∀ F id opl s r,drawn C P n F id opl s=some r→∀ k c tm df rd (u:Up) m V,(∀ o∈opl.toList,dstOk tm.size o) →
   FOk P B c F s tm df rd k→u.isDfd=F.dfd→PanM V s.pan m→Pans c V s.pan→OpsFin P B F c u rd (frm F tm (.code (.region id opl true)::k) df .run u rd) m V s opl k r
theorem st_skip:step P (lone (frm F tm (.code .skip::k) df .run u rd) cs w)=.next (lone (frm F tm k df .run u rd) cs w) :=
 step_lone_go (by simp [stepG,stepG.exec,frm])
theorem st_label {l:Nat}:step P (lone (frm F tm (.code (.label l)::k) df .run u rd) cs w)=.next (lone (frm F tm k df .run u rd) cs w) :=
 step_lone_go (by simp [stepG,stepG.exec,frm])
theorem st_inBlock {l:Nat}:step P (lone (frm F tm (.inBlock l::k) df .run u rd) cs w)=.next (lone (frm F tm k df .run u rd) cs w) :=
 step_lone_go (by simp [stepG,stepG.exec,frm])
theorem st_inScope {x:Code}:step P (lone (frm F tm (.inScope x::k) df .run u rd) cs w)=.next (lone (frm F tm k df .run u rd) cs w) :=
 step_lone_go (by simp [stepG,stepG.exec,frm])
theorem st_seq {x y:Code}:step P (lone (frm F tm (.code (.seq x y)::k) df .run u rd) cs w)=.next (lone (frm F tm (.code x::.code y::k) df .run u rd) cs w) :=
 step_lone_go (by simp [stepG,stepG.exec,frm])
theorem st_block {id:Nat} {x:Code}:step P (lone (frm F tm (.code (.block id x)::k) df .run u rd) cs w)=.next (lone (frm F tm (.code x::.inBlock id::k) df .run u rd) cs w) :=
 step_lone_go (by simp [stepG,stepG.exec,frm])
theorem st_loop {x:Code}:step P (lone (frm F tm (.code (.loop x)::k) df .run u rd) cs w)=.next (lone (frm F tm (.code x::.inLoop x::k) df .run u rd) cs w) :=
 step_lone_go (by simp [stepG,stepG.exec,frm])
theorem st_inLoop {x:Code}:step P (lone (frm F tm (.inLoop x::k) df .run u rd) cs w)=.next (lone (frm F tm (.code x::.inLoop x::k) df .run u rd) cs w) :=
 step_lone_go (by simp [stepG,stepG.exec,frm])
theorem st_scope {x:Code}:step P (lone (frm F tm (.code (.scope x)::k) df .run u rd) cs w)=.next (lone (frm F tm (.code x::.inScope x::k) df .run u rd) cs w) :=
 step_lone_go (by simp [stepG,stepG.exec,frm])
theorem st_exit {id:Nat} {k':List Item} (h:exitTo id k=some k'):step P (lone (frm F tm (.code (.exit id)::k) df .run u rd) cs w)=.next (lone (frm F tm k' df .run u rd) cs w) :=
 step_lone_go (by simp [stepG,stepG.exec,frm,h])
theorem st_goto {id:Nat} {k':List Item} (h:gotoIn id k=some k'):step P (lone (frm F tm (.code (.goto id)::k) df .run u rd) cs w)=.next (lone (frm F tm k' df .run u rd) cs w) :=
 step_lone_go (by simp [stepG,stepG.exec,frm,h])
theorem st_cond {x:Operand} {y z:Code} {t:Bool} (h:(Act.mk tm df).eval x=.bool t):step P (lone (frm F tm (.code (.cond x y z)::k) df .run u rd) cs w)=.next (lone (frm F tm (.code (if t then y else z)::k) df .run u rd) cs w) :=
 step_lone_go (by
  have:=congrFun (frm_eval (F:=F) (tm:=tm) (df:=df) (u:=u) (rd:=rd) (.code (.cond x y z)::k) .run) x
  simp only [frm] at this
  simp [stepG,stepG.exec,frm,this,h])
theorem st_region {id:Nat} {opl:Array Oper}:step P (lone (frm F tm (.code (.region id opl false)::k) df .run u rd) cs w)=.next (lone (frm F tm (.inRegion opl (List.range' 0 (opl.size-0))::k) df .run u rd) cs w) :=
 step_lone_go (by simp [stepG,stepG.exec,frm,List.range_eq_range'])
theorem st_beginRound {b:Nat} {w':World} (h:(Instr.beginRound b).run P w=.ok () w'):step P (lone (frm F tm (.beginRound::k) df .run u (some b)) cs w)=.next (lone (frm F tm k df .run u (some b)) cs w') :=
 step_lone_go (by simp [stepG,stepG.exec,stepG.apply,frm,h,Frame.finish])
theorem exit_items {n:Nat}:∀ (id:Nat) (k k':List Item),exitTo id k=some k'→(∀ it∈k,zBn n it)→∀ it∈k',zBn n it
 | id,[],k',h,_=>by simp [exitTo] at h
 | id,x::k,k',h,hk=>by
  have hk':∀ it∈k,zBn n it:=fun it hi=>hk it (by simp [hi])
  cases x
  case inBlock id' =>
   simp only [exitTo] at h
   split at h
   ·cases h;exact hk'
   ·exact exit_items id k k' h hk'
  all_goals exact exit_items id k k' h hk'
theorem find_items {n:Nat}:∀ (x:Code) (l:Nat) (y:Code),findLabel x l=some y→codeOk n x=true→codeOk n y=true
 | .seq a b,l,y,h,hx=>by
  simp only [codeOk,Bool.and_eq_true] at hx
  simp only [findLabel] at h
  split at h
  ·rename_i r hr
   cases h
   simp only [codeOk,Bool.and_eq_true]
   exact ⟨find_items a l r hr hx.1,hx.2⟩
  ·exact find_items b l y h hx.2
 | .label l',l,y,h,_=>by
  simp only [findLabel] at h
  split at h
  ·cases h;rfl
  ·cases h
 | .skip,l,y,h,_=>by simp [findLabel] at h
 | .ret,l,y,h,_=>by simp [findLabel] at h
 | .region _ _ _,l,y,h,_=>by simp [findLabel] at h
 | .cond _ _ _,l,y,h,_=>by simp [findLabel] at h
 | .block _ _,l,y,h,_=>by simp [findLabel] at h
 | .loop _,l,y,h,_=>by simp [findLabel] at h
 | .scope _,l,y,h,_=>by simp [findLabel] at h
 | .exit _,l,y,h,_=>by simp [findLabel] at h
 | .goto _,l,y,h,_=>by simp [findLabel] at h
 | .rangeFunc _ _ _ _,l,y,h,_=>by simp [findLabel] at h
 | .refuse _,l,y,h,_=>by simp [findLabel] at h
theorem goto_items {n:Nat}:∀ (l:Nat) (k k':List Item),gotoIn l k=some k'→(∀ it∈k,zBn n it)→∀ it∈k',zBn n it
 | l,[],k',h,_=>by simp [gotoIn] at h
 | l,x::k,k',h,hk=>by
  have hk':∀ it∈k,zBn n it:=fun it hi=>hk it (by simp [hi])
  cases x
  case inScope body =>
   simp only [gotoIn] at h
   split at h
   ·rename_i r hr
    cases h
    have:=hk (.inScope body) (by simp)
    intro it hi
    rcases List.mem_cons.1 hi with rfl | hi
    ·exact find_items body l r hr this
    ·rcases List.mem_cons.1 hi with rfl | hi
     ·exact this
     ·exact hk' it hi
   ·exact goto_items l k k' h hk'
  all_goals exact goto_items l k k' h hk'
theorem leave_ok {n:Nat} (ihU:UnwOk C P B n) {jump:Option Code} (h:leave C P (n+1) F jump s=some d) {m:FrameMode} {V:Value} (f:FOk P B c F s tm df rd []) (hu:u.isDfd=F.dfd) (hm:PanM V s.pan m) (hp:Pans c V s.pan) {K:Nat} (hK:KOk C F K c)
  (hj:∀ j,jump=some j→jumpOk j=true)
  (h1:(jump=none∨jump=some .ret)→∀ cs w,step P (lone (frm F tm todo df .run u none) cs w)=.next (lone (frm F tm todo df .returning u none) cs w))
  (h2:∀ b cs w v w',(Instr.endRound b jump).run P w=.ok v w'→(stepG P true { frame:=frm F tm todo df .run u (some b),callers:=cs,status:=.running,dying:=none } w).bare=(doReturn P true (frm F tm todo df .run u (some b)) cs none v w').bare) :
  Fin P B K F.base c d (frm F tm todo df .run u rd) u m s.pan V:=by
 simp only [leave] at h
 split at h
 ·rename_i l hr
  have hrd:=f.rd
  rw [hr] at hrd
  cases rd with
  | none=>exact hrd.elim
  | some b =>
   obtain ⟨g1,g2,r0,g3⟩:=hrd
   simp only [endRound] at h
   split at h
   ·rename_i r hl hdfr
    rw [← f.hH,g3] at hl
    cases hl
    cases h
    obtain ⟨o,ho,hro⟩:=f.sim.obj l b g1
    rw [g3] at ho
    cases ho
    obtain ⟨tmps,dd,k1,k2,⟨fn,k3,k4,k5,k6,k7,k8⟩,k9,x,k10,k11⟩:=hro
    have hset:=set_obj (y:=.loop ⟨if jump.isNone then .ready else .done,jump,r0.fn,tmps,r0.params,r0.assign,r0.body,dd⟩) (a:=.loop { r0 with state:=if jump.isNone then .ready else .done,pending:=jump })
     f.sim f.hb g1 g3 k1 (by simp) (by simp [Kind]) (fun c' hx hy=>by
      obtain ⟨x',k12,k13⟩:=hx.kind _ _ k10
      exact ⟨tmps,dd,hy,k2.ext hx,⟨fn,k3,k4,k5,k6,k7,hj⟩,hx.same _ _ x k10 k9 (by rintro _ _ rfl;exact k11),x',k12,k11.trans k13⟩) (fun N hN=>hN)
    obtain ⟨q1,q2,q3,q4⟩:=hset
    have hrun:(Instr.endRound b jump).run P c.w=.ok (.bool jump.isNone) { c.w with heap:=c.w.heap.setIfInBounds b (.loop ⟨if jump.isNone then .ready else .done,jump,r0.fn,tmps,r0.params,r0.assign,r0.body,dd⟩) }:=by
     simp only [Instr.endRound,Sem.run_bind,getLoop_run k1,Result.andThen_ok,q1,Sem.run_pure]
    refine ⟨_,_,m,c.w,.ret (.bool jump.isNone),Steps.refl _ _,.inr ⟨by simp [frm],fun cs=>h2 b cs c.w _ _ hrun⟩,⟨rfl,rfl,.inl rfl⟩,by simp [RelR,Rel],?_,q2,q3.below,?_,hm,rfl⟩
    ·simp only [Cx.wr,f.hH]
    ·exact q4
   ·cases h
 ·rename_i hr
  have hrd:=rdNone f.rd hr
  subst hrd
  have go:unw C P n F none s=some d→(jump=none∨jump=some .ret)→Fin P B K F.base c d (frm F tm todo df .run u none) u m s.pan V:=by
   intro h hjj
   have:=ihU F none s d h c tm df none todo u m V .returning Go.undef f hu hm hp rfl (fun _ _ e=>by cases e) (.inl rfl) K hK
   exact Fin.head hK.le (.one (h1 hjj _ _)) (TrB.refl _ _ _) ⟨rfl,rfl,rfl⟩ rfl this
  split at h
  ·exact go h (.inl rfl)
  ·exact go h (.inr rfl)
  ·cases h
end
end Go.Ab
