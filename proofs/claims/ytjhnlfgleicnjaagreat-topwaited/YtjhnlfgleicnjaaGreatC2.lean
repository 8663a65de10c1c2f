/- What it says that the abstract evaluator's run of code is the machine's. -/
import Derived.Test.YtjhnlfgleicnjaaGreatC1
namespace Go.Ab
set_option linter.unusedSimpArgs false
set_option linter.unusedVariables false
section
variable {C:Cfg} {P:Program} {B:Nat} {F:FI} {c:Cx} {e:Env} {a:Act}
structure TrB (tb base:Nat) (c c':Cx):Prop where
 sys:SysEq c.w c'.w
 size:c.w.heap.size≤c'.w.heap.size
 kind:∀ (l:Nat) (o:AO),l<tb→c.H[l]? = some o→∃ o',c'.H[l]? = some o'∧Kind o o'
 grow:∀ (l sz:Nat) xs xs',l<tb→c.H[l]? = some (.grow sz xs)→c'.H[l]? = some (.grow sz xs')→xs'.length=xs.length→c'.ρ l=c.ρ l
 same:∀ (l b:Nat) (o:AO),l<tb→c.H[l]? = some o→c.ρ l=some b→(∀ sz xs,o≠.grow sz xs)→c'.ρ l=some b
 kept:∀ b,b<c.w.heap.size→¬ c.owned b→¬ c'.owned b∧c'.w.heap[b]? = c.w.heap[b]?
 cells:∀ (b:Nat) (cs:Array Value) (T:TypeId) (fr:Nat×Nat),c.w.heap[b]? = some (.cells cs T fr)→∃ cs' fr',c'.w.heap[b]? = some (.cells cs' T fr')∧cs'.size=cs.size
 un:∀ (l:Nat) (o:AO),l<tb→c.H[l]? = some o→c.ρ l=none→(∀ sz xs,o≠.grow sz xs)→c'.ρ l=none∧c'.H[l]? = some o
 lt:∀ (l N:Nat) (o o':AO),l<base→c.H[l]? = some o→c'.H[l]? = some o'→l<N→o.lt N=true→o'.lt N=true
theorem Tr.below {tb base:Nat} {c c':Cx} (h:Tr base c c'):TrB tb base c c' where
 sys:=h.ext.sys
 size:=h.ext.size
 kind l o _:=h.ext.kind l o
 grow l sz xs xs' _:=h.ext.grow l sz xs xs'
 same l b o _:=h.ext.same l b o
 kept:=h.ext.kept
 cells:=h.ext.cells
 un l o _:=h.un l o
 lt l N o o' hl ho ho':=h.lt l N o o' hl ho ho'
theorem TrB.refl (tb base:Nat) (c:Cx):TrB tb base c c:=(Tr.refl base c).below
theorem TrB.trans {tb base:Nat} {a b c:Cx} (hb:base≤tb) (h:TrB tb base a b) (h':TrB tb base b c):TrB tb base a c where
 sys:=h.sys.trans h'.sys
 size:=Nat.le_trans h.size h'.size
 kind l o hl ho:=by
  obtain ⟨o1,h1,k1⟩:=h.kind l o hl ho
  obtain ⟨o2,h2,k2⟩:=h'.kind l o1 hl h1
  exact ⟨o2,h2,k1.trans k2⟩
 grow l sz xs ys hl hx hy e:=by
  obtain ⟨o1,h1,k1⟩:=h.kind l _ hl hx
  cases o1<;>simp only [Kind] at k1
  rename_i s zs
  obtain ⟨rfl,k1⟩:=k1
  obtain ⟨o2,h2,k2⟩:=h'.kind l _ hl h1
  rw [hy] at h2
  cases h2
  simp only [Kind] at k2
  exact (h'.grow l _ zs ys hl h1 hy (by omega)).trans (h.grow l _ xs zs hl hx h1 (by omega))
 same l d o hl0 ho hl hn:=by
  obtain ⟨o1,h1,k1⟩:=h.kind l o hl0 ho
  refine h'.same l d o1 hl0 h1 (h.same l d o hl0 ho hl hn) ?_
  rintro sz xs rfl
  cases o<;>simp only [Kind] at k1
  exact hn _ _ rfl
 kept d hd ho:=by
  obtain ⟨h1,h2⟩:=h.kept d hd ho
  obtain ⟨h3,h4⟩:=h'.kept d (Nat.lt_of_lt_of_le hd h.size) h1
  exact ⟨h3,h4.trans h2⟩
 cells d cs T fr hd:=by
  obtain ⟨c1,f1,h1,h2⟩:=h.cells d cs T fr hd
  obtain ⟨c2,f2,h3,h4⟩:=h'.cells d c1 T f1 h1
  exact ⟨c2,f2,h3,h4.trans h2⟩
 un l o hl0 ho hl hg:=by
  obtain ⟨h1,h2⟩:=h.un l o hl0 ho hl hg
  exact h'.un l o hl0 h2 h1 hg
 lt l N o o' hl ho ho' hN hlt:=by
  obtain ⟨o1,h1,_⟩:=h.kind l o (Nat.lt_of_lt_of_le hl hb) ho
  exact h'.lt l N o1 o' hl h1 ho' hN (h.lt l N o o1 hl ho h1 hN hlt)
theorem TrB.full {base tb:Nat} {c c':Cx} (h:TrB c.H.length tb c c') (hb:base≤tb):Tr base c c' where
 ext:={
  sys:=h.sys
  size:=h.size
  kind:=fun l o ho=>h.kind l o (List.getElem?_eq_some_iff.1 ho).1 ho
  grow:=fun l sz xs xs' hx=>h.grow l sz xs xs' (List.getElem?_eq_some_iff.1 hx).1 hx
  same:=fun l b o ho=>h.same l b o (List.getElem?_eq_some_iff.1 ho).1 ho
  kept:=h.kept
  cells:=h.cells }
 un l o ho:=h.un l o (List.getElem?_eq_some_iff.1 ho).1 ho
 lt l N o o' hl:=h.lt l N o o' (by omega)
theorem drop_trb {base N:Nat} (hb:base≤N) (c:Cx):TrB base base c (c.drop N) where
 sys:=⟨rfl,rfl,rfl⟩
 size:=Nat.le_refl _
 kind l o hl ho:=⟨o,by simp [Cx.drop,show l<N by omega,ho],Kind.refl o⟩
 grow l sz xs xs' hl _ _ _:=by simp [Cx.drop,show l<N by omega]
 same l b o hl _ h _:=by simp [Cx.drop,show l<N by omega,h]
 kept b _ ho:=⟨drop_owned ho,rfl⟩
 cells b cs T fr h:=⟨cs,fr,h,rfl⟩
 un l o hl ho h _:=by simp [Cx.drop,show l<N by omega,h,ho]
 lt l M o o' hl ho ho' _ h:=by
  simp [Cx.drop,show l<N by omega,ho] at ho'
  exact ho' ▸ h
def zBn (n:Nat):Item→Prop
 | .code c=>codeOk n c=true
 | .inLoop c=>codeOk n c=true
 | .inScope c=>codeOk n c=true
 | .inBlock _=>True
 | .beginRound=>True
 | _=>False
def RdOk (c:Cx) (base:Nat):Option Nat→Option Nat→Prop
 | none,none=>True
 | some l,some b=>c.ρ l=some b∧l<base∧∃ r,c.H[l]? = some (.loop r)
 | _,_=>False
def RelD (c:Cx):List ADefer→List Deferred→Prop
 | [],ds=>ds=[]
 | .fn f x k::r,ds=>∃ d s,ds=d::s∧RelT c f x k d∧RelD c r s
 | .collected l::r,ds=>∃ b s,ds={ target:=.collected b,args:=#[] }::s∧c.ρ l=some b∧(∃ x,c.H[l]? = some x∧Kind .dfr x)∧RelD c r s
structure FOk (P:Program) (B:Nat) (c:Cx) (F:FI) (s:St) (tm:Array Value) (df:List Deferred) (rd:Option Nat) (todo:List Item):Prop where
 hH:c.H=s.H
 sim:Sim P B c
 hb:HB F.base c.H
 lo:B≤c.w.heap.size
 env:zBc c s.env tm
 fn:∃ fn,P.funcs[F.fn]? = some fn∧tm.size=fn.ntmps∧∀ it∈todo,zBn fn.ntmps it
 dfr:RelD c s.dfr df
 rd:RdOk c F.base F.round rd
 pan:∀ v r,s.pan=some (v,r)→v.lt F.base=true
 elt:envLt c.H.length s.env=true
inductive Up where
 | plain (cs:List Frame)
 | dfd (x:Frame) (cs:List Frame)
def Up.cs:Up→FrameMode→List Frame
 | .plain cs,_=>cs
 | .dfd x cs,m=>{ x with mode:=m }::cs
def Up.kind:Up→CallKind
 | .plain _=>.normal
 | .dfd _ _=>.deferred
def Up.isDfd:Up→Bool
 | .plain _=>false
 | .dfd _ _=>true
def PanM (V:Value):Option (AV×Bool)→FrameMode→Prop
 | none,m=>m=.returning
 | some (_,r),m=>m=.panicking [{ v:=V,recovered:=r }]
def Pans (c:Cx) (V:Value) (p:Option (AV×Bool)):Prop:=∀ v r,p=some (v,r)→Rel c v V
def RelR (c:Cx):Out→Fate→Prop
 | .ret v,.ret V=>Rel c v V
 | .pan v,.pan V=>Rel c v V
 | _,_=>False
def Left (P:Program) (fr:Frame) (w:World) (e:Fate) (w':World):Prop:=fr.mode=.returning∧fr.defers=[]∧w'=w∧∃ v fn,e=.ret v∧P.funcs[fr.fn]? = some fn∧(results fn fr.tmps).run P w=.ok v w
def Fin (P:Program) (B tb base:Nat) (c:Cx) (d:Done) (fr:Frame) (u:Up) (m:FrameMode) (pan:Option (AV×Bool)) (V:Value):Prop :=
 ∃ c' fr' m' wl e,Steps P (lone fr (u.cs m) c.w) (lone fr' (u.cs m') wl)∧Gone P fr' wl e c'.w∧(fr'.kind=fr.kind∧fr'.fn=fr.fn∧(fr'.roundOf=fr.roundOf∨Left P fr' wl e c'.w)) ∧
  RelR c' d.out e∧c'.H=d.H∧Sim P B c'∧TrB tb base c c'∧HB base c'.H∧PanM V d.pan m'∧d.pan.map (·.1)=pan.map (·.1)
theorem RelT.ext {c c':Cx} (h:Ext c c') {f:Fn} {x k:List AV} {d:Deferred} (r:RelT c f x k d):RelT c' f x k d:=by
 obtain ⟨g,q,h1,h2,h3,h4⟩:=r
 exact ⟨g,q,h1,h2.ext h,RelL.ext h _ _ h3,RelL.ext h _ _ h4⟩
theorem RelD.ext {c c':Cx} (h:Ext c c'):∀ {l:List ADefer} {ds:List Deferred},RelD c l ds→RelD c' l ds
 | [],ds,r=>by simpa only [RelD] using r
 | .fn f x k::l,ds,r=>by
  simp only [RelD] at r ⊢
  obtain ⟨d,s,rfl,h1,h2⟩:=r
  exact ⟨d,s,rfl,h1.ext h,RelD.ext h h2⟩
 | .collected n::l,ds,r=>by
  simp only [RelD] at r ⊢
  obtain ⟨b,s,rfl,h1,⟨x,h2,h3⟩,h4⟩:=r
  obtain ⟨o,h5,h6⟩:=h.kind _ _ h2
  refine ⟨b,s,rfl,h.same _ _ _ h2 h1 ?_,⟨o,h5,h3.trans h6⟩,RelD.ext h h4⟩
  rintro _ _ rfl;exact h3
theorem RelD.drop {c:Cx} {N:Nat}:∀ {l:List ADefer} {ds:List Deferred},RelD c l ds→dfrLt N l=true→RelD (c.drop N) l ds
 | [],ds,r,_=>by simpa only [RelD] using r
 | .fn f x k::l,ds,r,h=>by
  simp only [RelD] at r ⊢
  simp only [dfrLt,ADefer.lt,Bool.and_eq_true] at h
  obtain ⟨d,s,rfl,⟨g,q,h1,h2,h3,h4⟩,h5⟩:=r
  exact ⟨d,s,rfl,⟨g,q,h1,h2.drop h.1.1,RelL.drop _ _ h3 h.1.2.1,RelL.drop _ _ h4 h.1.2.2⟩,RelD.drop h5 h.2⟩
 | .collected n::l,ds,r,h=>by
  simp only [RelD] at r ⊢
  simp only [dfrLt,ADefer.lt,Bool.and_eq_true,decide_eq_true_eq] at h
  obtain ⟨b,s,rfl,h1,⟨x,h2,h3⟩,h4⟩:=r
  exact ⟨b,s,rfl,by simp [Cx.drop,h.1,h1],⟨x,by simp [Cx.drop,h.1,h2],h3⟩,RelD.drop h4 h.2⟩
theorem RdOk.ext {c c':Cx} {base:Nat} (h:Ext c c'):∀ {r q:Option Nat},RdOk c base r q→RdOk c' base r q
 | none,none,_=>trivial
 | some l,some b,r=>by
  obtain ⟨h1,h2,x,h3⟩:=r
  obtain ⟨o,h5,h6⟩:=h.kind _ _ h3
  cases o<;>simp only [Kind] at h6
  exact ⟨h.same _ _ _ h3 h1 (by simp),h2,_,h5⟩
 | none,some _,r=>r
 | some _,none,r=>r
theorem RdOk.drop {c:Cx} {base N:Nat} (h:base≤N):∀ {r q:Option Nat},RdOk c base r q→RdOk (c.drop N) base r q
 | none,none,_=>trivial
 | some l,some b,r=>by
  obtain ⟨h1,h2,x,h3⟩:=r
  exact ⟨by simp [Cx.drop,show l<N by omega,h1],h2,x,by simp [Cx.drop,show l<N by omega,h3]⟩
 | none,some _,r=>r
 | some _,none,r=>r
theorem Pans.ext {c c':Cx} {V:Value} {p:Option (AV×Bool)} (h:Ext c c') (r:Pans c V p):Pans c' V p:=fun v q e=>Rel.ext h _ _ (r v q e)
theorem RelR.ext {c c':Cx} (h:Ext c c'):∀ {o:Out} {e:Fate},RelR c o e→RelR c' o e
 | .ret _,.ret _,r=>Rel.ext h _ _ r
 | .pan _,.pan _,r=>Rel.ext h _ _ r
 | .ret _,.pan _,r=>r.elim
 | .pan _,.ret _,r=>r.elim
theorem Fin.head {tb base:Nat} (hbt:base≤tb) {c c1:Cx} {d:Done} {fr fr1:Frame} {u:Up} {m m1:FrameMode} {pan p1:Option (AV×Bool)} {V:Value}
  (hs:Steps P (lone fr (u.cs m) c.w) (lone fr1 (u.cs m1) c1.w)) (ht:TrB tb base c c1) (hfr:fr1.kind=fr.kind∧fr1.fn=fr.fn∧fr1.roundOf=fr.roundOf)
  (hp:p1.map (·.1)=pan.map (·.1)) (h:Fin P B tb base c1 d fr1 u m1 p1 V):Fin P B tb base c d fr u m pan V:=by
 obtain ⟨c',fr',m',wl,e,h1,h2,⟨h3,h4,h5⟩,h6,h7,h8,h9,h10,h11,h12⟩:=h
 exact ⟨c',fr',m',wl,e,hs.trans h1,h2,⟨h3.trans hfr.1,h4.trans hfr.2.1,h5.imp_left fun h=>h.trans hfr.2.2⟩,h6,h7,h8,ht.trans hbt h9,h10,h11,h12.trans hp⟩
theorem Fin.step {tb base:Nat} (hbt:base≤tb) {c:Cx} {d:Done} {fr fr1:Frame} {u:Up} {m:FrameMode} {pan:Option (AV×Bool)} {V:Value}
  (hs:step P (lone fr (u.cs m) c.w)=.next (lone fr1 (u.cs m) c.w)) (hfr:fr1.kind=fr.kind∧fr1.fn=fr.fn∧fr1.roundOf=fr.roundOf)
  (h:Fin P B tb base c d fr1 u m pan V):Fin P B tb base c d fr u m pan V:=h.head hbt (.one hs) (TrB.refl _ _ _) hfr rfl
end
section
variable (C:Cfg) (P:Program) (B:Nat)
def KOk (F:FI) (K:Nat) (c:Cx):Prop:=(K=F.base∨C.grow F.fn 999997=true)∧(F.base≤K∧K≤c.H.length)
def ExecOk (n:Nat):Prop:=∀ F todo s d,exec C P n F todo s=some d→∀ c tm df rd (u:Up) m V,FOk P B c F s tm df rd todo→u.isDfd=F.dfd→PanM V s.pan m→Pans c V s.pan→∀ K,KOk C F K c →
 Fin P B K F.base c d { fn:=F.fn,tmps:=tm,todo,defers:=df,mode:=.run,kind:=u.kind,roundOf:=rd } u m s.pan V
def UnwOk (n:Nat):Prop:=∀ F mode s d,unw C P n F mode s=some d→∀ c tm df rd todo (u:Up) m V mo W,FOk P B c F s tm df rd []→u.isDfd=F.dfd→PanM V s.pan m→Pans c V s.pan→PanM W mode mo→Pans c W mode→(mode=none∨∃ v,mode=some (v,false))→∀ K,KOk C F K c →
 Fin P B K F.base c d { fn:=F.fn,tmps:=tm,todo,defers:=df,mode:=mo,kind:=u.kind,roundOf:=rd } u m s.pan V
def CallOk (n:Nat):Prop:=∀ dfd f x k H pan d base,zAx C P n base dfd f x k H pan=some d→∀ c t (u:Up) m V,c.H=H→Sim P B c→HB base c.H→B≤c.w.heap.size→RelT c f x k t→u.isDfd=dfd→PanM V pan m→Pans c V pan→(dfd=false→pan=none) →
 ∃ nx fr,(invoke t.target t.args).run P c.w=.ok nx c.w∧Entry P nx u.kind fr∧Fin P B c.H.length base c d fr u m pan V
def CallFOk (n:Nat):Prop:=∀ dfd g x H pan d,callF C P n dfd g x H pan=some d→∀ base c vs (u:Up) m V,c.H=H→Sim P B c→HB base c.H→B≤c.w.heap.size→RelL c x vs→u.isDfd=dfd→PanM V pan m→Pans c V pan →
 Fin P B c.H.length base c d (Frame.enter P g vs.toArray u.kind) u m pan V
def CallBOk (n:Nat):Prop:=∀ g x H d base,callB C P n base g x H=some d→C.grow g 999997=true→∀ c vs (u:Up) m V,c.H=H→Sim P B c→HB base c.H→B≤c.w.heap.size→RelL c x vs→u.isDfd=false→PanM V none m →
 Fin P B c.H.length base c d (Frame.enter P g vs.toArray u.kind) u m none V
noncomputable def kX (n:Nat):KX:=⟨fun b f a c H=>zAx C P n b false f a c H none,fun F id opl s=>drawn C P n F id opl s,fun F j s=>leave C P n F j s⟩
def RootOk (n:Nat):Prop:=∀ g x H d,KRun C P (kX C P n) (.call g x H) (·=d)→(∃ fn:Func,P.funcs[g]? = some fn∧fn.name ≠ "runtime.NumGoroutine" ∧ fn.body.isSome=true) ∧
 ∀ base c vs (u:Up) m V,c.H=H→Sim P B c→HB base c.H→B≤c.w.heap.size→RelL c x vs→u.isDfd=false→PanM V none m →
 Fin P B c.H.length base c d (Frame.enter P g vs.toArray u.kind) u m none V
end
section
variable {C:Cfg} {F:FI} {K:Nat} {c c':Cx}
theorem TrB.len {base:Nat} (h:TrB K base c c') (hK:K≤c.H.length):K≤c'.H.length:=by
 rcases Nat.eq_zero_or_pos K with h0 | h0
 ·omega
 ·obtain ⟨o',ho',_⟩:=h.kind (K-1) _ (by omega) (List.getElem?_eq_getElem (by omega))
  have:=(List.getElem?_eq_some_iff.1 ho').1
  omega
theorem TrB.low {tb a b:Nat} (h:TrB tb a c c') (hb:b≤a):TrB tb b c c' where
 sys:=h.sys
 size:=h.size
 kind:=h.kind
 grow:=h.grow
 same:=h.same
 kept:=h.kept
 cells:=h.cells
 un:=h.un
 lt l N o o' hl:=h.lt l N o o' (Nat.lt_of_lt_of_le hl hb)
theorem TrB.wk {a b base:Nat} (h:TrB a base c c') (hb:b≤a):TrB b base c c' where
 sys:=h.sys
 size:=h.size
 kind l o hl:=h.kind l o (Nat.lt_of_lt_of_le hl hb)
 grow l sz xs xs' hl:=h.grow l sz xs xs' (Nat.lt_of_lt_of_le hl hb)
 same l b o hl:=h.same l b o (Nat.lt_of_lt_of_le hl hb)
 kept:=h.kept
 cells:=h.cells
 un l o hl:=h.un l o (Nat.lt_of_lt_of_le hl hb)
 lt:=h.lt
def TrA (base:Nat) (c c':Cx):Prop:=TrB c.H.length base c c'
theorem TrA.refl (base:Nat) (c:Cx):TrA base c c:=TrB.refl _ _ _
theorem TrA.len {base:Nat} (h:TrA base c c'):c.H.length≤c'.H.length:=TrB.len h (Nat.le_refl _)
theorem TrA.trans {base:Nat} {a b c:Cx} (hb:base≤a.H.length) (h:TrA base a b) (h':TrA base b c):TrA base a c:=TrB.trans hb h (TrB.wk h' h.len)
theorem TrA.up {base:Nat} (h:TrA base c c') (hK:K≤c.H.length):TrB K base c c':=TrB.wk h hK
theorem Tr.all {base:Nat} (h:Tr base c c'):TrA base c c':=h.below
theorem KOk.tr {base:Nat} (hK:KOk C F K c) (h:TrB K base c c'):KOk C F K c':=⟨hK.1,hK.2.1,h.len hK.2.2⟩
theorem KOk.le (hK:KOk C F K c):F.base≤K:=hK.2.1
theorem KOk.base (h:F.base≤c.H.length):KOk C F F.base c:=⟨.inl rfl,Nat.le_refl _,h⟩
end
end Go.Ab
