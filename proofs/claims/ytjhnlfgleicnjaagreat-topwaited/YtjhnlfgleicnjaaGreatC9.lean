/- Code: the evaluator's run is the machine's; ranges over functions. -/
import Derived.Test.YtjhnlfgleicnjaaGreatC8
namespace Go.Ab
set_option linter.unusedSimpArgs false
set_option linter.unusedVariables false
section
variable {C:Cfg} {P:Program} {B:Nat} {F:FI} {c:Cx} {e:Env} {tm:Array Value} {df:List Deferred} {rd:Option Nat} {u:Up} {todo k:List Item} {cs:List Frame} {w:World} {s:St} {d:Done}
theorem ops_then {n:Nat} (ihE:ExecOk C P B n) (ihU:UnwOk C P B n) {opl:Array Oper} {r:RR} {fr:Frame} {m:FrameMode} {V:Value} (hfr:fr.kind=u.kind∧fr.fn=F.fn∧fr.roundOf=rd) (hu:u.isDfd=F.dfd)
  (ho:OpsFin P B F c u rd fr m V s opl k r) {K:Nat} (hK:KOk C F K c)
  (h1:∀ s',r=.ok s'→exec C P n F k s'=some d) (h2:∀ v s',r=.pan v s'→unw C P n F (some (v,false)) s'=some d):Fin P B K F.base c d fr u m s.pan V:=by
 have hf:∀ (x:Frame),(x.kind=u.kind∧x.fn=F.fn∧x.roundOf=rd)→x.kind=fr.kind∧x.fn=fr.fn∧x.roundOf=fr.roundOf:=fun x hx=>⟨hx.1.trans hfr.1.symm,hx.2.1.trans hfr.2.1.symm,hx.2.2.trans hfr.2.2.symm⟩
 cases r with
 | ok s' =>
  have h:=h1 s' rfl
  obtain ⟨c',tm',df',m',h1,h2,h3,h4,h5,h6⟩:=ho
  have:=ihE F k s' d h c' tm' df' rd u m' V h2 hu h4 h5 K (hK.tr (h3.up hK.2.2))
  exact Fin.head hK.le (h1.trans (.one step_regionEnd)) (h3.up hK.2.2) (hf _ ⟨rfl,rfl,rfl⟩) h6 this
 | pan v s' =>
  have h:=h2 v s' rfl
  obtain ⟨c',tm',df',m',todo,W,h1,h2,h3,h4,h5,h6,h7⟩:=ho
  have:=ihU F (some (v,false)) s' d h c' tm' df' rd todo u m' V _ W h2 hu h5 h6 rfl (fun _ _ e=>by cases e;exact h3) (.inr ⟨v,rfl⟩) K (hK.tr (h4.up hK.2.2))
  exact Fin.head hK.le h1 (h4.up hK.2.2) (hf _ ⟨rfl,rfl,rfl⟩) h7 this
theorem region_dst {n:Nat} {id:Nat} {opl:Array Oper} {draw:Bool} (h:codeOk n (.region id opl draw)=true):∀ o∈opl.toList,dstOk n o:=by
 intro o ho d hd
 simp only [codeOk,Array.all_eq_true_iff_forall_mem] at h
 have:=h o (by simpa using ho)
 rw [hd] at this
 simpa using this
theorem beginRound_run {b:Nat} {r:Loop} {w':World} (h:w.heap[b]? = some (.loop r)) (hr:r.state=.ready) (hs:(setObj b (.loop { r with state:=.busy })).run P w=.ok () w'):(Instr.beginRound b).run P w=.ok () w':=by
 simp only [Instr.beginRound,Sem.run_bind,getLoop_run h,Result.andThen_ok,hs,hr,Sem.run_pure]
theorem endLoop_run {b:Nat} {r:Loop} {w':World} (h:w.heap[b]? = some (.loop r)) (hr:r.state≠.busy) (hs:(setObj b (.loop { r with state:=.exhausted })).run P w=.ok () w'):(Instr.endLoop b).run P w=.ok r.pending w':=by
 have:(r.state==.busy)=false:=by simpa using hr
 simp only [Instr.endLoop,Sem.run_bind,getLoop_run h,Result.andThen_ok,this,Bool.false_eq_true,if_false,Sem.run_pure,hs]
theorem st_endRange {b:Nat} {j:Option Code} {w':World} (h:(Instr.endLoop b).run P w=.ok j w') :
  step P (lone (frm F tm (.endRangeFunc b::k) df .run u rd) cs w)=.next (lone (frm F tm ((j.map Item.code).toList++k) df .run u rd) cs w') :=
 step_lone_go (by simp [stepG,stepG.exec,frm,h])
theorem finish_range {b:Nat} {v:Value}:(frm F tm (.inRangeFunc b::k) df .run u rd).finish v=frm F tm (.endRangeFunc b::k) df .run u rd:=rfl
def EndOk (C:Cfg) (P:Program) (B n:Nat):Prop:=∀ F k L s1 d1 d,endLoop C P n F k L s1 d1=some d→∀ (c c1:Cx) (tm:Array Value) df1 rd (u:Up) m V fr0 frS b,(frS.kind=u.kind∧frS.fn=F.fn∧frS.roundOf=rd) →
  Steps P (lone frS (u.cs m) c.w) (lone fr0 (frm F tm (.inRangeFunc b::k) df1 .run u rd::u.cs m) c1.w)→∀ K,KOk C F K c→TrB K F.base c c1→FOk P B c1 F { s1 with H:=c1.H } tm df1 rd k→u.isDfd=F.dfd→PanM V s1.pan m→Pans c1 V s1.pan →
  c1.ρ L=some b→(∃ r,c1.H[L]? = some (.loop r))→fr0.kind=.normal →
  Fin P B c1.H.length F.base c1 d1 fr0 (.plain (frm F tm (.inRangeFunc b::k) df1 .run u rd::u.cs m)) .returning none Go.undef→Fin P B K F.base c d frS u m s1.pan V
theorem range_ok {n:Nat} (ihE:ExecOk C P B n) (ihU:UnwOk C P B n):EndOk C P B (n+1):=by
 intro F k L s1 d1 d h c c1 tm df1 rd u m V fr0 frS b hfr hst K hK ht f hu hm hp hL hLo hkn hf
 obtain ⟨c',fr',m',wl,e',k1,k2,⟨k3,_,_⟩,k4,k5,k6,k7,k8,k9,k10⟩:=hf
 have hx:=(k7.full (Nat.le_refl _)).ext
 have hK1:=hK.tr ht
 have ht':=ht.trans hK.le (k7.wk hK1.2.2)
 have hk:fr'.kind=.normal:=k3.trans hkn
 have hff:∀ (x:Frame),(x.kind=u.kind∧x.fn=F.fn∧x.roundOf=rd)→x.kind=frS.kind∧x.fn=frS.fn∧x.roundOf=frS.roundOf:=fun x hx=>⟨hx.1.trans hfr.1.symm,hx.2.1.trans hfr.2.1.symm,hx.2.2.trans hfr.2.2.symm⟩
 have f':FOk P B c' F { s1 with H:=d1.H } tm df1 rd k:=f.heap hx k6 k8 k5
 simp only [endLoop] at h
 cases e' with
 | pan W =>
  split at h
  ·rename_i v hv
   rw [hv] at k4
   have:=ihU F (some (v,false)) _ d h c' tm df1 rd (.inRangeFunc b::k) u m V _ W (f'.todo (fun _ _ _=>by simp)) hu hm (hp.ext hx) rfl (fun _ _ e=>by cases e;exact k4) (.inr ⟨v,rfl⟩) K (hK.tr ht')
   exact Fin.head hK.le (hst.trans (k1.trans (.one (k2.panics (frm F tm (.inRangeFunc b::k) df1 .run u rd) (u.cs m))))) ht' (hff _ ⟨rfl,rfl,rfl⟩) rfl this
  ·rename_i v hv
   rw [hv] at k4
   exact k4.elim
 | ret R =>
  split at h
  ·rename_i v hv
   rw [hv] at k4
   exact k4.elim
  ·rename_i v hv
   split at h
   ·rename_i r hr
    split at h
    ·cases h
    ·rename_i hnb
     have hstep:=k2.normal hk (frm F tm (.inRangeFunc b::k) df1 .run u rd) (u.cs m)
     rw [finish_range] at hstep
     obtain ⟨r0,hr0⟩:=hLo
     have hL':c'.ρ L=some b:=hx.same _ _ _ hr0 hL (by simp)
     have hr':c'.H[L]? = some (.loop r):=by rw [k5];exact hr
     obtain ⟨o,ho,hro⟩:=k6.obj L b hL'
     rw [hr'] at ho
     cases ho
     obtain ⟨tmps,dd,g1,g2,⟨fn,g3,g4,g5,g6,g7,g8⟩,g9,x,g10,g11⟩:=hro
     obtain ⟨q1,q2,q3,q4⟩:=set_obj (y:=.loop ⟨.exhausted,r.pending,r.fn,tmps,r.params,r.assign,r.body,dd⟩) (a:=.loop { r with state:=.exhausted })
      k6 k8 hL' hr' g1 (by simp) (by simp [Kind]) (fun c2 hx2 hy=>by
       obtain ⟨x',k12,k13⟩:=hx2.kind _ _ g10
       exact ⟨tmps,dd,hy,g2.ext hx2,⟨fn,g3,g4,g5,g6,g7,g8⟩,hx2.same _ _ x g10 g9 (by rintro _ _ rfl;exact g11),x',k12,g11.trans k13⟩) (fun N hN=>hN)
     have hend:=endLoop_run g1 hnb q1
     have f2:=f'.heap q3.ext q2 q4 (H':=d1.H.set L (.loop { r with state:=.exhausted })) (by simp only [Cx.wr,k5])
     have f3:=f2.todo (k':=(r.pending.map Item.code).toList++k) (fun fn' _ hall it hi=>by
      rcases List.mem_append.1 hi with hi | hi
      ·cases hpd:r.pending with
       | none=>rw [hpd] at hi;simp at hi
       | some j =>
        rw [hpd] at hi
        simp at hi
        subst hi
        have:=g8 j hpd
        cases j<;>simp only [jumpOk] at this<;>first | (cases this;done) | rfl
      ·exact hall it hi)
     have:=ihE F _ _ d h _ tm df1 rd u m V f3 hu hm ((hp.ext hx).ext q3.ext) K (hK.tr (ht'.trans hK.le q3.below))
     exact Fin.head hK.le (hst.trans (k1.trans (.head hstep (.one (st_endRange hend))))) (ht'.trans hK.le q3.below) (hff _ ⟨rfl,rfl,rfl⟩) rfl this
   ·cases h
theorem newObj_run (o:Obj) (w:World):(newObj o).run P w=.ok w.heap.size { w with heap:=w.heap.push o }:=by simp [newObj,Sem.run]
theorem st_range {f:Operand} {params:Array Tmp} {assign body:Code} {b:Nat} {mark:List Deferred} {w1 w2:World} {nx:Next} {fr0:Frame} (h:(Instr.enterLoop F.fn tm params assign body rd).run P w=.ok (b,mark) w1)
  (hr:(do let d ← resolve (Act.mk tm df).eval { callee:=.value f,args:=#[.const (.func (.yield b) #[] #[])],argTypes:=#[] } 0;invoke d.target d.args:Sem Next).run P w1=.ok nx w2) (hn:Entry P nx .normal fr0) :
  step P (lone (frm F tm (.code (.rangeFunc f params assign body)::k) df .run u rd) cs w)=.next (lone fr0 (frm F tm (.inRangeFunc b::k) (mark++df) .run u rd::cs) w2):=by
 refine step_lone_go ?_
 have he:({ fn:=F.fn,tmps:=tm,todo:=.inRangeFunc b::k,defers:=mark++df,mode:=.run,kind:=u.kind,roundOf:=rd }:Frame).eval=(Act.mk tm df).eval:=by
  funext x;cases x<;>rfl
 simp only [stepG,stepG.exec,frm,Sem.runT_eq,h,GStep.bare_after,he]
 rcases hn with ⟨f,vs,rfl,rfl⟩ | ⟨l,f,t,x,y,rfl,rfl⟩<;>simp [stepG.apply,hr]
theorem newLoop_ok {f:Operand} {params:Array Tmp} {assign body:Code} {D dd:Nat} {fn:Func} (hs:Sim P B c) (hb:HB F.base c.H) (hB:B≤c.w.heap.size) (he:zBc c s.env tm) (hlt:envLt c.H.length s.env=true)
  (h1:P.funcs[F.fn]? = some fn) (h2:tm.size=fn.ntmps) (h3:zBn fn.ntmps (.code (.rangeFunc f params assign body))) (hD:c.ρ D=some dd) {x:AO} (hx:c.H[D]? = some x) (hk:Kind .dfr x) :
  let c1:=c.new (.loop ⟨.ready,none,F.fn,tm,params,assign,body,dd⟩) (.loop ⟨.ready,none,F.fn,s.env,params,assign,body,D⟩)
  Sim P B c1∧Tr F.base c c1∧HB F.base c1.H:=by
 have ht:=new_tr (base:=F.base) hs (.loop ⟨.ready,none,F.fn,tm,params,assign,body,dd⟩) (.loop ⟨.ready,none,F.fn,s.env,params,assign,body,D⟩)
 refine ⟨new_sim hs hB ?_,ht,new_hb hb ?_⟩
 ·simp only [zBn,codeOk,Bool.and_eq_true,Array.all_eq_true_iff_forall_mem,decide_eq_true_eq] at h3
  obtain ⟨x',hx',hk'⟩:=ht.ext.kind _ _ hx
  exact ⟨tm,dd,Array.getElem?_push_size,he.ext ht.ext,⟨fn,h1,h2,h3.2.1,h3.2.2,h3.1,by simp⟩,ht.ext.same _ _ x hx hD (by rintro _ _ rfl;exact hk),x',hx',hk.trans hk'⟩
 ·simp only [AO.lt,Bool.and_eq_true,decide_eq_true_eq]
  exact ⟨hlt,hs.len hD⟩
theorem rangeFunc_ok (ok:Ok C P) {n:Nat} (ihL:EndOk C P B n) (ihC:CallOk C P B n) {f:Operand} {params:Array Tmp} {assign body:Code} {m:FrameMode} {V:Value}
  (h:exec C P (n+1) F (.code (.rangeFunc f params assign body)::k) s=some d) (g:FOk P B c F s tm df rd (.code (.rangeFunc f params assign body)::k)) (hu:u.isDfd=F.dfd) (hm:PanM V s.pan m) (hp:Pans c V s.pan) {K:Nat} (hK:KOk C F K c) :
  Fin P B K F.base c d (frm F tm (.code (.rangeFunc f params assign body)::k) df .run u rd) u m s.pan V:=by
 obtain ⟨fn,hfn,hsz,hit⟩:=g.fn
 have hitem:=hit _ (List.mem_cons_self ..)
 have gk:FOk P B c F s tm df rd k:=g.todo (fun _ _ hall it hi=>hall it (List.mem_cons_of_mem _ hi))
 simp only [exec] at h
 split at h
 ·rename_i fv first cap hf
  have call:∀ {c1:Cx} {L b:Nat} {mark:List Deferred} {s1:St} {d1:Done},(Instr.enterLoop F.fn tm params assign body rd).run P c.w=.ok (b,mark) c1.w→Tr F.base c c1→FOk P B c1 F { s1 with H:=c1.H } tm (mark++df) rd k →
    c1.ρ L=some b→(∃ r,c1.H[L]? = some (.loop r))→s1.pan=s.pan→s1.env=s.env→zAx C P n F.base false fv (first++[.func (.yield L) [] []]) cap c1.H none=some d1→endLoop C P n F k L s1 d1=some d →
    Fin P B K F.base c d (frm F tm (.code (.rangeFunc f params assign body)::k) df .run u rd) u m s.pan V:=by
   intro c1 L b mark s1 d1 hrun ht f1 hL hLo hpan henv hc he
   have hF:=rel_opd (a:=Act.mk tm df) ok f1.sim.glob f1.env f
   simp only [henv,hf,Rel] at hF
   obtain ⟨g',a',b',hF,r1,r2,r3⟩:=hF
   have hres:(resolve (Act.mk tm df).eval { callee:=.value f,args:=#[.const (.func (.yield b) #[] #[])],argTypes:=#[] } 0).run P c1.w=.ok ⟨.fn g' b',a'++#[.func (.yield b) #[] #[]]⟩ c1.w:=by
    have hm:(#[.const (.func (.yield b) #[] #[])]:Array Operand).map (Act.mk tm df).eval=#[.func (.yield b) #[] #[]]:=by simp [Act.eval]
    simp only [resolve,hF,Deferred.ofValue,hm,Sem.run_pure]
   have hT:RelT c1 fv (first++[.func (.yield L) [] []]) cap ⟨.fn g' b',a'++#[.func (.yield b) #[] #[]]⟩:=by
    refine ⟨g',b',rfl,r1,?_,r3⟩
    simp only [Array.toList_append]
    refine r2.append ?_
    simp only [RelL,Rel,RelFn]
    exact ⟨_,[],rfl,⟨.yield b,#[],#[],rfl,⟨b,hL,hLo,rfl⟩,rfl,rfl⟩,rfl⟩
   obtain ⟨nx,fr0,h1,h2,h3⟩:=ihC _ _ _ _ _ _ _ _ hc c1 _ (.plain (frm F tm (.inRangeFunc b::k) (mark++df) .run u rd::u.cs m)) .returning Go.undef rfl f1.sim f1.hb f1.lo hT rfl rfl (fun _ _ e=>by cases e) (fun _=>rfl)
   have hst:step P (lone (frm F tm (.code (.rangeFunc f params assign body)::k) df .run u rd) (u.cs m) c.w)=.next (lone fr0 (frm F tm (.inRangeFunc b::k) (mark++df) .run u rd::u.cs m) c1.w) :=
    st_range hrun (by simp only [Sem.run_bind,hres,Result.andThen_ok];exact h1) h2
   have hk:fr0.kind=.normal:=by rcases h2 with ⟨_,_,_,rfl⟩ | ⟨_,_,_,_,_,_,rfl⟩<;>rfl
   have:=ihL F k L s1 d1 d he c c1 tm (mark++df) rd u m V fr0 _ b ⟨rfl,rfl,rfl⟩ (.one hst) K hK ht.below f1 hu (by rw [hpan];exact hm) (by rw [hpan];exact hp.ext ht.ext) hL hLo hk h3
   rwa [hpan] at this
  split at h
  ·rename_i hr
   have hrd:=rdNone g.rd hr
   subst hrd
   split at h
   ·rename_i d1 hc
    have t0:=new_tr (base:=F.base) g.sim (.deferred (some [])) .dfr
    have s0:=new_sim (a:=.dfr) g.sim g.lo (o:=.deferred (some [])) (show RelO P _ _ .dfr from Array.getElem?_push_size)
    have b0:HB F.base (c.new (.deferred (some [])) .dfr).H:=new_hb g.hb rfl
    have hD:(c.new (.deferred (some [])) .dfr).ρ c.H.length=some c.w.heap.size:=by simp [Cx.new]
    have hDo:(c.new (.deferred (some [])) .dfr).H[c.H.length]? = some .dfr:=by simp [Cx.new]
    have f0:FOk P B (c.new (.deferred (some [])) .dfr) F { s with H:=(c.new (.deferred (some [])) .dfr).H } tm df none k:=gk.heap t0.ext s0 b0 rfl
    obtain ⟨s1,t1,b1⟩:=newLoop_ok (s:=s) f0.sim f0.hb f0.lo f0.env f0.elt hfn hsz hitem hD hDo (by simp [Kind])
    have f1:=f0.heap t1.ext s1 b1 rfl
    rw [← g.hH] at hc h
    refine call (c1:=(c.new (.deferred (some [])) .dfr).new (.loop ⟨.ready,none,F.fn,tm,params,assign,body,c.w.heap.size⟩) (.loop ⟨.ready,none,F.fn,s.env,params,assign,body,c.H.length⟩)) (L:=c.H.length+1) (b:=c.w.heap.size+1) (s1:={ env:=s.env,dfr:=.collected c.H.length::s.dfr,H:=c.H,pan:=s.pan }) (mark:=[{ target:=.collected c.w.heap.size,args:=#[] }]) ?_ (t0.trans t1) ?_ ?_ ?_ rfl rfl ?_ h
    ·simp only [Instr.enterLoop,Sem.run_bind,newObj_run,Result.andThen_ok,Sem.run_pure,Cx.new,Array.size_push]
    ·refine { f1 with dfr:=?_ }
     simp only [List.cons_append,List.nil_append,RelD]
     exact ⟨_,_,rfl,t1.ext.same _ _ _ hDo hD (by simp),(t1.ext.kind _ _ hDo).elim fun x hx=>⟨x,hx.1,hx.2⟩,f1.dfr⟩
    ·simp [Cx.new]
    ·exact ⟨⟨.ready,none,F.fn,s.env,params,assign,body,c.H.length⟩,by simp [Cx.new]⟩
    ·simpa [Cx.new] using hc
   ·cases h
  ·rename_i l0 hr
   have hrd:=g.rd
   rw [hr] at hrd
   cases rd with
   | none=>exact hrd.elim
   | some b0 =>
    obtain ⟨h1,h2,r',h3⟩:=hrd
    split at h
    ·rename_i r0 hl0
     rw [← g.hH,h3] at hl0
     cases hl0
     split at h
     ·rename_i d1 hc
      obtain ⟨o,ho,hro⟩:=g.sim.obj l0 b0 h1
      rw [h3] at ho
      cases ho
      obtain ⟨tmps,dd,k1,k2,_,k9,x,k10,k11⟩:=hro
      obtain ⟨s1,t1,b1⟩:=newLoop_ok (s:=s) gk.sim gk.hb gk.lo gk.env gk.elt hfn hsz hitem k9 k10 k11
      have f1:=gk.heap t1.ext s1 b1 rfl
      rw [← g.hH] at hc h
      refine call (c1:=c.new (.loop ⟨.ready,none,F.fn,tm,params,assign,body,dd⟩) (.loop ⟨.ready,none,F.fn,s.env,params,assign,body,r'.dfr⟩)) (L:=c.H.length) (b:=c.w.heap.size) (mark:=[]) ?_ t1 ?_ ?_ ?_ rfl rfl ?_ h
      ·simp only [Instr.enterLoop,Sem.run_bind,getLoop_run k1,newObj_run,Result.andThen_ok,Sem.run_pure,Cx.new]
      ·exact f1
      ·simp [Cx.new]
      ·exact ⟨⟨.ready,none,F.fn,s.env,params,assign,body,r'.dfr⟩,by simp [Cx.new]⟩
      ·exact hc
     ·cases h
    ·cases h
 ·cases h
end
end Go.Ab
