/- How a frame is left: deferred calls, panics, results. -/
import Derived.Test.YtjhnlfgleicnjaaGreatC6
namespace Go.Ab
set_option linter.unusedSimpArgs false
set_option linter.unusedVariables false
section
variable {C:Cfg} {P:Program} {B:Nat} {F:FI} {c:Cx} {e:Env} {tm:Array Value} {df:List Deferred} {rd:Option Nat} {u:Up} {todo k:List Item} {cs:List Frame} {w:World}
theorem set_obj {base:Nat} (hs:Sim P B c) (hb:HB base c.H) {l b:Nat} {o a:AO} {x y:Obj} (hl:c.ρ l=some b) (ho:c.H[l]? = some o) (hx:c.w.heap[b]? = some x) (hnc:∀ cs T fr,x≠.cells cs T fr) (hk:Kind o a)
  (hr:∀ c',Ext c c'→c'.w.heap[b]? = some y→RelO P c' b a) (hlt:∀ N,o.lt N=true→a.lt N=true) :
  (setObj b y).run P c.w=.ok () { c.w with heap:=c.w.heap.setIfInBounds b y }∧Sim P B (c.wr { c.w with heap:=c.w.heap.setIfInBounds b y } l a) ∧
   Tr base c (c.wr { c.w with heap:=c.w.heap.setIfInBounds b y } l a)∧HB base (c.H.set l a):=by
 have hblt:=(hs.lo l b hl).2
 have hW:Wr c b { c.w with heap:=c.w.heap.setIfInBounds b y }:={
  sys:=⟨rfl,rfl,rfl⟩
  size:=by simp
  others:=fun d hd=>by simp only;rw [Array.getElem?_setIfInBounds_ne (fun e=>hd e.symm)]
  cells:=fun cs T fr hc=>by rw [hx] at hc;exact absurd (Option.some.inj hc) (hnc cs T fr) }
 refine ⟨by simp [setObj,Sem.run,hx],wr_sim hs hl ho hW hk (hr _ (wr_ext hl ho hW hk) ?_),wr_tr hl ho hW hk (fun N _ _ h=>hlt N h),set_hb hb ho (fun hlb=>hlt _ (hb.old l _ hlb ho)) (hlt _ (hb.all l _ ho))⟩
 simp only [Cx.wr];rw [Array.getElem?_setIfInBounds_self_of_lt hblt]
theorem loadAt_as {t:TypeId} {X V:Value} {w w':World} (h:(Instr.loadAt t X).run P w=.ok V w'):(do loadVar t (← asAddr X):Sem Value).run P w=.ok V w':=by
 cases X
 case pointer x =>
  cases x with
  | none=>simp [Instr.loadAt,Instr.sureAddr] at h
  | some a=>exact h
 all_goals simp [Instr.loadAt,Instr.sureAddr] at h
def resOne (tm:Array Value):ResultVar→Sem Value
 | .tmp t=>pure (tm.getD t Go.undef)
 | .cell a t=>do loadVar t (← asAddr (tm.getD a Go.undef))
theorem results_eq (fn:Func) (tm:Array Value):results fn tm=(do let vs ← fn.results.mapM (resOne tm);pure (if h:vs.size=1 then vs[0] else .tuple vs)):=by
 unfold results
 congr 1
theorem results_list (ok:Ok C P) (hs:Sim P B c) (he:zBc c e tm):∀ (rs:List ResultVar) (vs:List AV),readRes C c.H e rs=some vs →
  ∃ ys,(rs.mapM (resOne tm)).run P c.w=.ok ys c.w∧RelL c vs ys
 | [],vs,h=>by simp only [readRes] at h;cases h;exact ⟨[],rfl,by simp [RelL]⟩
 | .tmp t::rs,vs,h=>by
  simp only [readRes] at h
  obtain ⟨vs',h1,rfl⟩:=Option.map_eq_some_iff.1 h
  obtain ⟨ys,h2,h3⟩:=results_list ok hs he rs vs' h1
  refine ⟨tm.getD t Go.undef::ys,?_,?_⟩
  ·simp only [List.mapM_cons,resOne,Sem.run_bind,Sem.run_pure,Result.andThen_ok,h2]
  ·simp only [RelL];exact ⟨_,_,rfl,he t,h3⟩
 | .cell a t::rs,vs,h=>by
  simp only [readRes] at h
  split at h
  ·rename_i ty hty
   split at h
   ·rename_i v hv
    obtain ⟨vs',h1,rfl⟩:=Option.map_eq_some_iff.1 h
    obtain ⟨ys,h2,h3⟩:=results_list ok hs he rs vs' h1
    obtain ⟨V,h4,h5⟩:=evLoad_run hs (ok.ty _ _ hty) hv (he a)
    refine ⟨V::ys,?_,?_⟩
    ·have h6:=loadAt_as h4
     rw [Sem.run_bind] at h6
     simp only [List.mapM_cons,resOne,Sem.run_bind,h6,Sem.run_pure,Result.andThen_ok,h2]
    ·simp only [RelL];exact ⟨_,_,rfl,h5,h3⟩
   ·cases h
  ·cases h
theorem results_run (ok:Ok C P) (hs:Sim P B c) (he:zBc c e tm) {fn:Func} {vs:List AV} (h:readRes C c.H e fn.results.toList=some vs):∃ V,(results fn tm).run P c.w=.ok V c.w∧Rel c (packRes vs) V:=by
 obtain ⟨ys,h1,h2⟩:=results_list ok hs he _ _ h
 refine ⟨if h:ys.toArray.size=1 then ys.toArray[0] else .tuple ys.toArray,?_,?_⟩
 ·rw [results_eq]
  simp only [Sem.run_bind]
  rw [Array.mapM_eq_mapM_toList]
  simp only [Sem.run_map]
  rw [h1]
  simp only [Result.andThen_ok,Sem.run_pure]
 ·have hl:=h2.length
  match vs,ys,h2,hl with
  | [v],[y],h2,_ =>
   simp only [RelL] at h2
   obtain ⟨y',s,hy,hr,_⟩:=h2
   cases hy
   simpa [packRes] using hr
  | [],[],_,_=>simp [packRes,Rel,RelL]
  | v::v'::vs,y::y'::ys,h2,_ =>
   simp only [packRes,Rel]
   exact ⟨_,by simp,h2⟩
theorem step_collected {mo:FrameMode} (hmo:mo=.returning∨∃ ch,mo=.panicking ch) {b:Nat} {ds calls:List Deferred} {w':World} (h:(Instr.takeDeferred b).run P w=.ok calls w') :
  step P (lone (frm F tm todo ({ target:=.collected b,args:=#[] }::ds) mo u rd) cs w)=.next (lone (frm F tm todo (calls++ds) mo u rd) cs w'):=by
 refine step_lone_go ?_
 rcases hmo with rfl | ⟨ch,rfl⟩<;>simp [stepG,unwind,frm,h]
theorem step_callDeferred {mo:FrameMode} (hmo:mo=.returning∨∃ ch,mo=.panicking ch) {d:Deferred} {ds:List Deferred} {g:Fn} {q:Array Value} (hd:d.target=.fn g q) {nx:Next} {fr0:Frame} {w':World}
  (h:(invoke d.target d.args).run P w=.ok nx w') (hn:Entry P nx .deferred fr0) :
  step P (lone (frm F tm todo (d::ds) mo u rd) cs w)=.next (lone fr0 (frm F tm todo ds mo u rd::cs) w'):=by
 refine step_lone_go ?_
 obtain ⟨t,x⟩:=d
 simp only at hd h
 subst hd
 rcases hmo with rfl | ⟨ch,rfl⟩<;>rcases hn with ⟨f,vs,rfl,rfl⟩ | ⟨l,f,t,y,z,rfl,rfl⟩<;>simp [stepG,unwind,callDeferred,frm,h]
theorem panM_mode {V:Value} {p:Option (AV×Bool)} {m:FrameMode} (h:PanM V p m):m=.returning∨∃ ch,m=.panicking ch:=by
 cases p with
 | none=>exact .inl h
 | some q=>obtain ⟨_,r⟩:=q;exact .inr ⟨_,h⟩
theorem unw_ok (ok:Ok C P) {n:Nat} (ihC:CallOk C P B n) (ihU:UnwOk C P B n):UnwOk C P B (n+1):=by
 intro F mode s d h c tm df rd todo u m V mo W f hu hm hp hmo hpw hmode K hK
 change Fin P B K F.base c d (frm F tm todo df mo u rd) u m s.pan V
 simp only [unw] at h
 have hdfr:=f.dfr
 cases hdf:s.dfr with
 | nil =>
  rw [hdf] at h hdfr
  simp only [RelD] at hdfr
  subst hdfr
  simp only at h
  obtain ⟨fn,hfn,_⟩:=f.fn
  rcases hmode with rfl | ⟨v,rfl⟩
  ·simp only at h
   split at h
   ·rename_i fn' hfn' hrd
    split at h
    ·rename_i vs hvs
     cases h
     have:=rdNone f.rd hrd
     subst this
     simp only [PanM] at hmo
     subst hmo
     obtain ⟨h1,_⟩:=ok.fns _ _ hfn'
     rw [← f.hH] at hvs
     obtain ⟨R,h2,h3⟩:=results_run ok f.sim f.env hvs
     exact ⟨c,_,m,c.w,.ret R,Steps.refl _ _,.inl ⟨rfl,rfl,rfl,rfl,fn',h1,h2⟩,⟨rfl,rfl,.inl rfl⟩,h3,f.hH,f.sim,TrB.refl _ _ _,f.hb,hm,rfl⟩
    ·cases h
   ·cases h
  ·simp only at h
   cases h
   simp only [PanM] at hmo
   subst hmo
   exact ⟨c,_,m,c.w,.pan W,Steps.refl _ _,⟨rfl,rfl,rfl,fn,hfn⟩,⟨rfl,rfl,.inl rfl⟩,hpw v false rfl,f.hH,f.sim,TrB.refl _ _ _,f.hb,hm,rfl⟩
 | cons x ds =>
  cases x with
  | collected l =>
   rw [hdf] at h hdfr
   simp only [RelD] at hdfr
   obtain ⟨b,s',rfl,h1,⟨o,h2,h3⟩,h4⟩:=hdfr
   simp only at h
   split at h
   ·rename_i hl
    have ho:c.H[l]? = some .dfr:=by rw [f.hH];exact hl
    obtain ⟨o',g1,g2⟩:=f.sim.obj l b h1
    rw [ho] at g1
    cases g1
    simp only [RelO] at g2
    obtain ⟨k1,k2,k3,k4⟩:=set_obj (y:=.deferred none) (a:=.dead) f.sim f.hb h1 ho g2 (by simp) (by simp [Kind]) (fun _ _ _=>trivial) (fun _ _=>rfl)
    have hrun:(Instr.takeDeferred b).run P c.w=.ok [] { c.w with heap:=c.w.heap.setIfInBounds b (.deferred none) }:=by
     have:(getObj b).run P c.w=.ok (.deferred (some [])) c.w:=by simp [getObj,Sem.run,g2]
     simp only [Instr.takeDeferred,Sem.run_bind,this,Result.andThen_ok,k1,Sem.run_pure]
    have f':FOk P B (c.wr { c.w with heap:=c.w.heap.setIfInBounds b (.deferred none) } l .dead) F { s with dfr:=ds,H:=s.H.set l .dead } tm s' rd []:=by
     have:=f.heap k3.ext k2 k4 (H':=s.H.set l .dead) (by simp [Cx.wr,f.hH])
     exact { this with dfr:=h4.ext k3.ext }
    have:=ihU F mode _ d h _ tm s' rd todo u m V mo W f' hu hm (hp.ext k3.ext) hmo (hpw.ext k3.ext) hmode K (hK.tr (k3.below (tb:=K)))
    exact Fin.head hK.le (.one (step_collected (calls:=[]) (panM_mode hmo) hrun)) k3.below ⟨rfl,rfl,rfl⟩ rfl this
   ·cases h
  | fn g x y =>
   rw [hdf] at h hdfr
   simp only [RelD] at hdfr
   obtain ⟨D,s',rfl,h1,h4⟩:=hdfr
   simp only at h
   have f0:FOk P B c F { s with dfr:=ds } tm s' rd []:={ f with dfr:=h4 }
   split at h
   ·rename_i v H' pan' hc
    obtain ⟨nx,fr0,g1,g2,g3⟩:=ihC _ _ _ _ _ _ _ _ hc c D (.dfd (frm F tm todo s' mo u rd) (u.cs m)) mo W f.hH f.sim f.hb f.lo h1 rfl hmo hpw (by simp)
    have hD:=h1
    obtain ⟨gg,q,hD,_⟩:=hD
    have hst:=step_callDeferred (P:=P) (F:=F) (tm:=tm) (todo:=todo) (u:=u) (rd:=rd) (cs:=u.cs m) (panM_mode hmo) (ds:=s') hD g1 g2
    obtain ⟨c',fr',m',wl,e',k1,k2,⟨k3,_,_⟩,k4,k5,k6,k7,k8,k9,k10⟩:=g3
    have hk:fr'.kind=.deferred:=by
     rw [k3]
     rcases g2 with ⟨_,_,_,rfl⟩ | ⟨_,_,_,_,_,_,rfl⟩<;>rfl
    have hx:=(k7.full (Nat.le_refl _)).ext
    cases e' with
    | pan _=>exact k4.elim
    | ret R =>
     have f':=f0.heap hx k6 k8 k5
     simp only at k9 k10
     have hst':Steps P (lone (frm F tm todo (D::s') mo u rd) (u.cs m) c.w) (lone fr' (Up.cs (.dfd (frm F tm todo s' mo u rd) (u.cs m)) m') wl):=.head hst k1
     have go:∀ mode2 mo2,unw C P n F mode2 { s with dfr:=ds,H:=H' }=some d→PanM W mode2 mo2→Pans c' W mode2→(mode2=none∨∃ v,mode2=some (v,false)) →
       step P (lone fr' (Up.cs (.dfd (frm F tm todo s' mo u rd) (u.cs m)) m') wl)=.next (lone (frm F tm todo s' mo2 u rd) (u.cs m) c'.w)→Fin P B K F.base c d (frm F tm todo (D::s') mo u rd) u m s.pan V:=by
      intro mode2 mo2 h2 hm2 hp2 hmd2 hs2
      have:=ihU F mode2 _ d h2 c' tm s' rd todo u m V mo2 W f' hu hm (hp.ext hx) hm2 hp2 hmd2 K (hK.tr (k7.wk hK.2.2))
      exact Fin.head hK.le (hst'.trans (.one hs2)) (k7.wk hK.2.2) ⟨rfl,rfl,rfl⟩ rfl this
     rcases hmode with rfl | ⟨v0,rfl⟩
     ·have hp0:pan'=none:=by
       cases pan' with
       | none=>rfl
       | some _=>simp at k10
      subst hp0
      simp only [PanM] at hmo k9
      subst hmo k9
      simp only at h
      exact go none .returning h rfl (fun _ _ e=>by cases e) (.inl rfl) (k2.deferred hk _ _ (.inl rfl))
     ·cases pan' with
      | none=>simp at k10
      | some q =>
       obtain ⟨v1,r⟩:=q
       simp only [PanM] at hmo k9
       subst hmo k9
       cases r with
       | true =>
        simp only at h
        exact go none .returning h rfl (fun _ _ e=>by cases e) (.inl rfl) (k2.recovered hk _ _ rfl)
       | false =>
        simp only at h
        exact go (some (v0,false)) _ h rfl (hpw.ext hx) (.inr ⟨v0,rfl⟩) (k2.deferred hk _ _ (.inr ⟨_,rfl⟩))
   ·cases h
end
end Go.Ab
