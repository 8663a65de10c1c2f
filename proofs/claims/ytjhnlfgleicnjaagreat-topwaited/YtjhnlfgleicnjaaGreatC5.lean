/- A region that asks nothing: the evaluator's run of its operations is the machine's. -/
import Derived.Test.YtjhnlfgleicnjaaGreatC4
namespace Go.Ab
set_option linter.unusedSimpArgs false
set_option linter.unusedVariables false
section
variable {C:Cfg} {P:Program} {B:Nat}
def dstOk (n:Nat) (o:Oper):Prop:=∀ d,o.dst=some d→d<n
def OpsFin (P:Program) (B:Nat) (F:FI) (c:Cx) (u:Up) (rd:Option Nat) (fr:Frame) (m:FrameMode) (V:Value) (s:St) (opl:Array Oper) (k:List Item):RR→Prop
 | .ok s'=>∃ c' tm' df' m',Steps P (lone fr (u.cs m) c.w) (lone (frm F tm' (.inRegion opl []::k) df' .run u rd) (u.cs m') c'.w)∧FOk P B c' F s' tm' df' rd k∧TrA F.base c c' ∧
   PanM V s'.pan m'∧Pans c' V s'.pan∧s'.pan.map (·.1)=s.pan.map (·.1)
 | .pan v s'=>∃ c' tm' df' m' todo W,Steps P (lone fr (u.cs m) c.w) (lone (frm F tm' todo df' (.panicking [{ v:=W,recovered:=false }]) u rd) (u.cs m') c'.w)∧FOk P B c' F s' tm' df' rd []∧Rel c' v W∧TrA F.base c c' ∧
   PanM V s'.pan m'∧Pans c' V s'.pan∧s'.pan.map (·.1)=s.pan.map (·.1)
theorem OpsFin.head {F:FI} {c c1:Cx} {u:Up} {rd:Option Nat} {fr fr1:Frame} {m m1:FrameMode} {V:Value} {s s1:St} {opl:Array Oper} {k:List Item} {r:RR}
  (hb:F.base≤c.H.length) (hs:Steps P (lone fr (u.cs m) c.w) (lone fr1 (u.cs m1) c1.w)) (ht:TrA F.base c c1) (hp:s1.pan.map (·.1)=s.pan.map (·.1)) (h:OpsFin P B F c1 u rd fr1 m1 V s1 opl k r):OpsFin P B F c u rd fr m V s opl k r:=by
 cases r with
 | ok s' =>
  obtain ⟨c',tm',df',m',h1,h2,h3,h4,h5,h6⟩:=h
  exact ⟨c',tm',df',m',hs.trans h1,h2,ht.trans hb h3,h4,h5,h6.trans hp⟩
 | pan v s' =>
  obtain ⟨c',tm',df',m',todo,W,h1,h2,h3,h4,h5,h6,h7⟩:=h
  exact ⟨c',tm',df',m',todo,W,hs.trans h1,h2,h3,ht.trans hb h4,h5,h6,h7.trans hp⟩
theorem FOk.put {F:FI} {c c':Cx} {s:St} {tm:Array Value} {df:List Deferred} {rd:Option Nat} {k:List Item} {v:AV} {V:Value} {dst:Option Tmp} {H':Heap}
  (f:FOk P B c F s tm df rd k) (hx:Ext c c') (hs:Sim P B c') (hb:HB F.base c'.H) (hH:c'.H=H') (hv:Rel c' v V) (hd:∀ d,dst=some d→d<tm.size) :
  FOk P B c' F { s with env:=s.env.put dst v,H:=H' } (putT tm dst V) df rd k where
 hH:=hH
 sim:=hs
 hb:=hb
 lo:=Nat.le_trans f.lo hx.size
 env:=put_env (f.env.ext hx) hv hd
 fn:=by rw [zBf];exact f.fn
 dfr:=f.dfr.ext hx
 rd:=f.rd.ext hx
 pan:=f.pan
 elt:=by
  cases dst with
  | none=>exact envLt_mono hx.len f.elt
  | some d=>simp only [Env.put,envLt,Bool.and_eq_true];exact ⟨Rel.lt _ _ hv,envLt_mono hx.len f.elt⟩
theorem FOk.heap {F:FI} {c c':Cx} {s:St} {tm:Array Value} {df:List Deferred} {rd:Option Nat} {k:List Item} {H':Heap}
  (f:FOk P B c F s tm df rd k) (hx:Ext c c') (hs:Sim P B c') (hb:HB F.base c'.H) (hH:c'.H=H'):FOk P B c' F { s with H:=H' } tm df rd k where
 hH:=hH
 sim:=hs
 hb:=hb
 lo:=Nat.le_trans f.lo hx.size
 env:=f.env.ext hx
 fn:=f.fn
 dfr:=f.dfr.ext hx
 rd:=f.rd.ext hx
 pan:=f.pan
 elt:=envLt_mono hx.len f.elt
theorem FOk.todo {F:FI} {c:Cx} {s:St} {tm:Array Value} {df:List Deferred} {rd:Option Nat} {k k':List Item} (f:FOk P B c F s tm df rd k) (h:∀ fn,P.funcs[F.fn]? = some fn→(∀ it∈k,zBn fn.ntmps it)→∀ it∈k',zBn fn.ntmps it):FOk P B c F s tm df rd k' :=
 { f with fn:=by obtain ⟨fn,h1,h2,h3⟩:=f.fn;exact ⟨fn,h1,h2,h fn h1 h3⟩ }
theorem wanted_ok {c:Cx} {e:Env} {tm:Array Value} {opl:Array Oper} {o:Oper} {b:Bool} (h:zAf opl.toList e o=some b) (he:zBc c e tm):Region.wanted o (yielded opl tm)=b:=by
 unfold zAf at h
 unfold Region.wanted
 split at h
 ·rename_i hg
  rw [hg];cases h;rfl
 ·rename_i j w hg
  rw [hg]
  simp only [Array.getElem?_toList] at h
  split at h
  ·rename_i d hd
   have hr:=he d
   split at h
   ·rename_i x hx
    cases h
    rw [hx] at hr
    simp only [Rel] at hr
    have hsz:d<tm.size:=by
     refine Nat.lt_of_not_le fun hle=>?_
     rw [Array.getD_eq_getD_getElem?,Array.getElem?_eq_none hle] at hr
     simp [Go.undef] at hr
    have:tm[d]? = some (.bool x):=by
     rw [Array.getD_eq_getD_getElem?] at hr
     rw [Array.getElem?_eq_getElem hsz] at hr ⊢
     simpa using hr
    simp only [yielded,hd,Option.bind_some,this]
    cases x<;>cases w<;>rfl
   ·rename_i vs hx
    cases h
    rw [hx] at hr
    simp only [Rel] at hr
    obtain ⟨ar,hr,_⟩:=hr
    have:∀ b,tm[d]? ≠ some (.bool b):=by
     intro b hb
     rw [Array.getD_eq_getD_getElem?,hb] at hr
     cases hr
    simp only [yielded,hd,Option.bind_some]
    cases w<;>rfl
   ·cases h
  ·cases h
theorem undef_rel (c:Cx):Rel c (.tup []) Go.undef:=by simp only [Rel,RelL,Go.undef];exact ⟨_,rfl,rfl⟩
theorem rdNone {c:Cx} {base:Nat} {r q:Option Nat} (h:RdOk c base r q) (hr:r=none):q=none:=by
 subst hr
 cases q with
 | none=>rfl
 | some _=>exact h.elim
theorem ops_ok (ok:Ok C P) {n:Nat} (ihC:CallOk C P B n) (ihO:∀ F all rest s r,ops C P n F all rest s=some r→∀ (opl:Array Oper) i k c tm df rd (u:Up) m V,all=opl.toList→rest=all.drop i→(∀ o∈all,dstOk tm.size o) →
   FOk P B c F s tm df rd k→u.isDfd=F.dfd→PanM V s.pan m→Pans c V s.pan→OpsFin P B F c u rd (frm F tm (.inRegion opl (List.range' i (opl.size-i))::k) df .run u rd) m V s opl k r)
  {F:FI} {all rest:List Oper} {s:St} {r:RR} (h:ops C P (n+1) F all rest s=some r) (opl:Array Oper) (i:Nat) (k:List Item) (c:Cx) (tm:Array Value) (df:List Deferred) (rd:Option Nat) (u:Up) (m:FrameMode) (V:Value)
  (hall:all=opl.toList) (hrest:rest=all.drop i) (hdst:∀ o∈all,dstOk tm.size o) (f:FOk P B c F s tm df rd k) (hu:u.isDfd=F.dfd) (hm:PanM V s.pan m) (hp:Pans c V s.pan) :
  OpsFin P B F c u rd (frm F tm (.inRegion opl (List.range' i (opl.size-i))::k) df .run u rd) m V s opl k r:=by
 subst hall
 simp only [ops] at h
 cases rest with
 | nil =>
  simp only at h
  cases h
  have hle:opl.size≤i:=by
   have:=congrArg List.length hrest
   simp at this;omega
  rw [show opl.size-i=0 by omega]
  exact ⟨c,tm,df,m,Steps.refl _ _,f,TrA.refl _ _,hm,hp,rfl⟩
 | cons o rest =>
  have hlt:i<opl.size:=by
   refine Nat.lt_of_not_le fun hle=>?_
   rw [List.drop_eq_nil_of_le (by simpa using hle)] at hrest
   cases hrest
  have ho:opl[i]? = some o:=by
   have:=congrArg (·[0]?) hrest
   simp at this
   exact this.symm
  have hrest':rest=opl.toList.drop (i+1):=by
   have:=congrArg List.tail hrest
   simpa using this
  have hmem:o∈opl.toList:=by
   rw [Array.getElem?_eq_some_iff] at ho
   obtain ⟨h1,rfl⟩:=ho
   exact Array.getElem_mem_toList h1
  have hd:=hdst o hmem
  rw [show opl.size-i=(opl.size-(i+1))+1 by omega,List.range'_succ]
  simp only at h
  have go:∀ {c1:Cx} {s1:St} {tm1:Array Value} {df1:List Deferred} {m1:FrameMode},ops C P n F opl.toList rest s1=some r→tm1.size=tm.size →
    Steps P (lone (frm F tm (.inRegion opl (i::List.range' (i+1) (opl.size-(i+1)))::k) df .run u rd) (u.cs m) c.w) (lone (frm F tm1 (.inRegion opl (List.range' (i+1) (opl.size-(i+1)))::k) df1 .run u rd) (u.cs m1) c1.w) →
    FOk P B c1 F s1 tm1 df1 rd k→TrA F.base c c1→PanM V s1.pan m1→Pans c1 V s1.pan→s1.pan.map (·.1)=s.pan.map (·.1) →
    OpsFin P B F c u rd (frm F tm (.inRegion opl (i::List.range' (i+1) (opl.size-(i+1)))::k) df .run u rd) m V s opl k r:=by
   intro c1 s1 tm1 df1 m1 h hsz hst f1 ht hm1 hp1 hpe
   exact OpsFin.head f.hb.le hst ht hpe (ihO F _ _ s1 r h opl (i+1) k c1 tm1 df1 rd u m1 V rfl hrest' (fun o ho=>hsz ▸ hdst o ho) f1 hu hm1 hp1)
  cases hw:zAf opl.toList s.env o with
  | none=>rw [hw] at h;cases h
  | some b =>
   have hw':=wanted_ok hw f.env
   rw [hw] at h
   cases b with
   | false =>
    simp only at h
    refine go h (zBf tm o.dst Go.undef) (.one (step_skipop i _ ho hw')) ?_ (TrA.refl _ _) hm hp rfl
    exact f.put (Ext.refl c) f.sim f.hb f.hH (undef_rel c) hd
   | true =>
    simp only at h
    cases he:evOp C P F s.H s.env o with
    | none=>rw [he] at h;cases h
    | some q =>
     rw [he] at h
     rw [← f.hH] at he
     cases q with
     | val v H' =>
      simp only at h
      obtain ⟨nx,V',w',ρ',h1,h2,h3,h4,h5,h6⟩:=evOp_val (a:=Act.mk tm df) ok f.sim f.hb f.lo f.env he
      refine go (c1:=⟨w',ρ',H'⟩) h (zBf tm o.dst V') (.one (step_value i _ ho hw' (.inr (zB5 he (by simp))) h1 h2)) ?_ h5.all hm (hp.ext h5.ext) rfl
      exact f.put h5.ext h4 h6 rfl h3 hd
     | call g x y =>
      simp only at h
      obtain ⟨D,hD,hrun⟩:=evOp_call (df:=df) ok f.sim.glob f.env he
      cases hc:zAx C P n F.base false g x y s.H none with
      | none=>rw [hc] at h;cases h
      | some d =>
       rw [hc] at h
       obtain ⟨nx,fr0,h1,h2,h3⟩:=ihC _ _ _ _ _ _ _ _ hc c D (.plain (frm F tm (.inRegion opl (i::List.range' (i+1) (opl.size-(i+1)))::k) df .run u rd::u.cs m)) .returning Go.undef f.hH f.sim f.hb f.lo hD rfl rfl (fun _ _ e=>by cases e) (fun _=>rfl)
       have hst:=step_enter (P:=P) (u:=u) (F:=F) (df:=df) (rd:=rd) (k:=k) (cs:=u.cs m) i (List.range' (i+1) (opl.size-(i+1))) ho hw' (.inr (zB5 he (by simp))) (hrun c.w _ h1 rfl) h2
       obtain ⟨c',fr',m',wl,e',g1,g2,⟨g3,_,_⟩,g4,g5,g6,g7,g8,_,_⟩:=h3
       have hk:fr'.kind=.normal:=by
        rw [g3]
        rcases h2 with ⟨_,_,_,rfl⟩ | ⟨_,_,_,_,_,_,rfl⟩<;>rfl
       have hx:=(g7.full (Nat.le_refl _)).ext
       obtain ⟨out,Hd,pd⟩:=d
       cases out with
       | ret v =>
        simp only at h
        cases e' with
        | pan _=>exact g4.elim
        | ret W =>
         have hret:=g2.normal hk (frm F tm (.inRegion opl (i::List.range' (i+1) (opl.size-(i+1)))::k) df .run u rd) (u.cs m)
         rw [zBh i _ ho] at hret
         refine go h (zBf tm o.dst W) (.head hst (g1.trans (.one hret))) ?_ g7 hm (hp.ext hx) rfl
         exact f.put hx g6 g8 g5 g4 hd
       | pan v =>
        simp only at h
        cases h
        cases e' with
        | ret _=>exact g4.elim
        | pan W =>
         have hret:=g2.panics (frm F tm (.inRegion opl (i::List.range' (i+1) (opl.size-(i+1)))::k) df .run u rd) (u.cs m)
         refine ⟨c',tm,df,m,_,W,.head hst (g1.trans (.one hret)),(f.heap hx g6 g8 g5).todo (fun _ _ _=>by simp),g4,g7,hm,hp.ext hx,rfl⟩
     | pan v =>
      simp only at h
      cases h
      obtain ⟨W,h1,h2⟩:=evOp_pan (df:=df) ok f.sim.glob f.env he
      exact ⟨c,tm,df,m,_,W,.one (step_panic i _ ho hw' (.inr (zB5 he (by simp))) h1),f.todo (fun _ _ _=>by simp),h2,TrA.refl _ _,hm,hp,rfl⟩
     | dfr d =>
      simp only at h
      obtain ⟨hr,D,h1,g,x,y,rfl,h2⟩:=evOp_dfr (df:=df) ok f.sim.glob f.env he
      have hrd:=rdNone f.rd hr
      subst hrd
      refine go h (zBf tm o.dst Go.undef) (.one (step_defer i _ ho hw' h1)) ?_ (TrA.refl _ _) hm hp rfl
      have:=f.put (Ext.refl c) f.sim f.hb f.hH (undef_rel c) hd
      exact { this with dfr:=by simp only [RelD];exact ⟨D,df,rfl,h2,f.dfr⟩ }
     | recov =>
      simp only at h
      have h1:=evOp_recov (tm:=tm) (df:=df) he
      have hnd:=zB5 he (by simp)
      have key:F.round=none→rd=none:=fun hr=>rdNone f.rd hr
      split at h
      ·rename_i v hr hdf hpan
       have hrd:=key hr
       subst hrd
       rw [hdf] at hu
       cases u with
       | plain _=>cases hu
       | dfd x cs =>
        rw [hpan] at hm
        simp only [PanM] at hm
        subst hm
        have hst:=step_recover (P:=P) (u:=.dfd x cs) (F:=F) (df:=df) (k:=k) (cs:=Up.cs (.dfd x cs) (.panicking [{ v:=V,recovered:=false }])) i (List.range' (i+1) (opl.size-(i+1))) ho hw' hnd h1
        simp only [tryRecover,frm,Up.kind,Up.cs] at hst
        refine go (m1:=.panicking [{ v:=V,recovered:=true }]) h (zBf tm o.dst V) (.one hst) ?_ (TrA.refl _ _) rfl ?_ (by simp [hpan])
        ·have:=f.put (Ext.refl c) f.sim f.hb f.hH (hp v false hpan) hd
         exact { this with pan:=fun v' r e=>by cases e;exact f.pan _ _ hpan }
        ·intro v' r e
         cases e
         exact hp v false hpan
      ·rename_i hr hne
       have hrd:=key hr
       subst hrd
       have hnone:tryRecover (frm F tm (.inRegion opl (i::List.range' (i+1) (opl.size-(i+1)))::k) df .run u none) (u.cs m)=none:=by
        cases u with
        | plain cs=>simp [tryRecover,frm,Up.kind]
        | dfd x cs =>
         cases hpan:s.pan with
         | none =>
          rw [hpan] at hm
          simp only [PanM] at hm
          subst hm
          simp [tryRecover,frm,Up.kind,Up.cs]
         | some q =>
          obtain ⟨v,r⟩:=q
          rw [hpan] at hm
          simp only [PanM] at hm
          subst hm
          cases r with
          | true=>simp [tryRecover,frm,Up.kind,Up.cs]
          | false=>exact absurd hpan (hne v hu.symm)
       have hst:=step_recover (P:=P) (u:=u) (F:=F) (df:=df) (k:=k) (cs:=u.cs m) i (List.range' (i+1) (opl.size-(i+1))) ho hw' hnd h1
       rw [hnone] at hst
       refine go h (zBf tm o.dst .nilIface) (.one hst) ?_ (TrA.refl _ _) hm hp rfl
       exact f.put (Ext.refl c) f.sim f.hb f.hH (by simp only [Rel]) hd
      ·cases h
end
end Go.Ab
