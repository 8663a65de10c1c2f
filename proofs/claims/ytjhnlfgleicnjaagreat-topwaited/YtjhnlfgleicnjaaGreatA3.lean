/- What an abstract state says of a real one: values, objects, and how that lasts. -/
import Derived.Test.YtjhnlfgleicnjaaGreatA2
import Derived.Calls
namespace Go.Ab
set_option linter.unusedSimpArgs false
set_option linter.unusedVariables false
structure Cx where
 w:World
 ρ:Nat→Option Nat
 H:Heap
def Cx.owned (c:Cx) (b:Nat):Prop:=∃ l,c.ρ l=some b
def Lies (w:World) (b o:Nat) (l:List Value):Prop:=∀ k,k<l.length→w.cell? ⟨b,o+k,none⟩=l[k]?
def RelFn (c:Cx) (f g:Fn):Prop :=
 match f with
 | .yield l=>∃ b,c.ρ l=some b∧(∃ r,c.H[l]? = some (.loop r))∧g=.yield b
 | f=>g=f
def flat (ys:List Value):List Value:=ys.flatMap (·.cells.toList)
def known (v:AV):Bool:=zAc v.cells
mutual
def Rel (c:Cx):AV→Value→Prop
 | .int k n,v=>v=.int k n
 | .bool b,v=>v=.bool b
 | .nilp,v=>v=.pointer none
 | .ptr l off,v=>∃ b,c.ρ l=some b∧(∃ x,c.H[l]? = some x∧x.bx=true)∧v=.pointer (some ⟨b,off,none⟩)
 | .eptr l n i off,v=>∃ b o sz xs,v=.pointer (some ⟨b,o,none⟩)∧c.H[l]? = some (.grow sz xs)∧n≤xs.length ∧
   (xs.length=n→c.ρ l=some b∧o=i*sz+off)
 | .vptr e off,v=>(e.lt 0=true∧known e=true)∧∃ b o y,v=.pointer (some ⟨b,o+off,none⟩)∧b<c.w.heap.size∧¬ c.owned b∧Rel c e y∧Lies c.w b o y.cells.toList
 | .sl f es,v=>∃ a cap,v=.slice a es.length cap∧((f=true→cap=es.length)∧es.length≤cap)∧(ltL 0 es=true∧∀ x∈es,known x=true) ∧
   (es=[]∨∃ b o sz ys,a=some ⟨b,o,none⟩∧b<c.w.heap.size∧¬ c.owned b∧RelL c es ys∧(∀ y∈ys,y.cells.size=sz)∧Lies c.w b o (flat ys))
 | .gsl l n,v=>∃ a cap sz xs,v=.slice a n cap∧c.H[l]? = some (.grow sz xs)∧(n≤xs.length∧(n≤cap∧(n=0∨∃ b,a=some ⟨b,0,none⟩))) ∧
   (xs.length=n →
    (c.ρ l=none∧n=0∧cap=0) ∨
    ∃ b cells T fr,c.ρ l=some b∧a=some ⟨b,0,none⟩∧n≤cap∧c.w.heap[b]? = some (.cells cells T fr)∧cap*sz≤cells.size)
 | .wsl l n i off,v=>∃ b cap sz xs,v=.slice (some ⟨b,off,none⟩) (n-i) cap∧c.H[l]? = some (.grow sz xs)∧(i<n∧n≤xs.length)∧(xs.length=n→c.ρ l=some b∧n-i≤cap)
 | .map l,v=>∃ b,c.ρ l=some b∧(∃ x,c.H[l]? = some x∧x.mp=true)∧v=.map (some b)
 | .nilmap,v=>v=.map none
 | .func f a b,v=>∃ g a' b',v=.func g a' b'∧RelFn c f g∧RelL c a a'.toList∧RelL c b b'.toList
 | .nilFunc,v=>v=.nilFunc
 | .iface t x,v=>∃ y,v=.iface t y∧Rel c x y
 | .nilIface,v=>v=.nilIface
 | .agg cs,v=>∃ a,v=.agg a∧RelL c cs a.toList
 | .tup cs,v=>∃ a,v=.tuple a∧RelL c cs a.toList
 | .undef,_=>True
def RelL (c:Cx):List AV→List Value→Prop
 | [],l=>l=[]
 | v::r,l=>∃ y s,l=y::s∧Rel c v y∧RelL c r s
end
def zBc (c:Cx) (e:Env) (t:Array Value):Prop:=∀ k,Rel c (e.get k) (t.getD k Go.undef)
def RelM (c:Cx):List (AV×AV)→List MapEntry→Nat→Prop
 | [],l,_=>l=[]
 | (k,v)::r,l,i=>∃ e s,l=e::s∧Rel c k e.key∧Rel c v e.val∧e.born=i∧RelM c r s (i+1)
def isStr (P:Program) (t:TypeId):Bool :=
 match P.underlying t with
 | some (.struct _)=>true
 | some (.array _ _)=>true
 | _=>false
def KeyFit (P:Program) (t:TypeId) (k:AV):Prop:=∃ ks,zAd P 8 t=some ks∧fits ks k.cells=true ∧
 ((∃ cs,k=.agg cs∧isStr P t=true)∨(∃ q n,k=.int q n∧isStr P t=false)∨(∃ b,k=.bool b∧isStr P t=false))
def Kind:AO→AO→Prop
 | .box _,.box _=>True
 | .map t _,.map t' _=>t'=t
 | .map t _,.dmap t' _ _=>t'=t
 | .dmap t _ _,.dmap t' _ _=>t'=t
 | .loop _,.loop _=>True
 | .dfr,.dfr=>True
 | .dfr,.dead=>True
 | .dead,.dead=>True
 | .grow sz xs,.grow sz' xs'=>sz'=sz∧xs.length≤xs'.length
 | .iter m n _,.iter m' n' _=>m'=m∧n'=n
 | _,_=>False
theorem Kind.bx {a b:AO} (h:Kind a b) (ha:a.bx=true):b.bx=true:=by
 cases a<;>cases b<;>simp_all [Kind,AO.bx]
def RelO (P:Program) (c:Cx) (b:Nat):AO→Prop
 | .box v=>∃ y T,c.w.heap[b]? = some (.cells y.cells T (0,0))∧Rel c v y∧P.cellsOf T=y.cells.size∧known v=true
 | .grow sz xs=>∃ ys rest T,c.w.heap[b]? = some (.cells (flat ys++rest).toArray T (0,0))∧RelL c xs ys∧(∀ y∈ys,y.cells.size=sz)∧ltL 0 xs=true∧∀ x∈xs,known x=true
 | .map kt es=>∃ l,c.w.heap[b]? = some (.map l.toArray l.length)∧RelM c es l 0∧∀ x∈es,KeyFit P kt x.1
 | .loop r=>∃ tmps d,c.w.heap[b]? = some (.loop ⟨r.state,r.pending,r.fn,tmps,r.params,r.assign,r.body,d⟩)∧zBc c r.env tmps ∧
   (∃ fn,P.funcs[r.fn]? = some fn∧tmps.size=fn.ntmps∧codeOk fn.ntmps r.assign=true∧codeOk fn.ntmps r.body=true∧(∀ t∈r.params,t<fn.ntmps)∧∀ j,r.pending=some j→jumpOk j=true)∧c.ρ r.dfr=some d∧∃ x,c.H[r.dfr]? = some x∧Kind .dfr x
 | .dfr=>c.w.heap[b]? = some (.deferred (some []))
 | .dead=>True
 | .dmap kt es i=>∃ l,c.w.heap[b]? = some (.map (l.eraseIdx i).toArray l.length)∧RelM c es l 0∧i<es.length
 | .iter m n seen=>∃ d,c.w.heap[b]? = some (.mapIter (some d) n seen.toArray n)∧c.ρ m=some d∧∃ x,c.H[m]? = some x∧x.mp=true
def GlobOk (c:Cx):Prop:=∀ g v,(g,v)∈globL→Rel c (.vptr v 0) (.pointer (some ⟨g,0,none⟩))
structure Sim (P:Program) (B:Nat) (c:Cx):Prop where
 obj:∀ l b,c.ρ l=some b→∃ o,c.H[l]? = some o∧RelO P c b o
 inj:∀ l l' b,c.ρ l=some b→c.ρ l'=some b→l=l'
 lo:∀ l b,c.ρ l=some b→B≤b∧b<c.w.heap.size
 glob:GlobOk c
theorem Sim.len {P:Program} {B:Nat} {c:Cx} (h:Sim P B c) {l b:Nat} (hl:c.ρ l=some b):l<c.H.length:=by
 obtain ⟨o,ho,_⟩:=h.obj l b hl
 exact (List.getElem?_eq_some_iff.1 ho).1
theorem fnLt_mono {N M:Nat} (h:N≤M) {f:Fn} (hf:fnLt N f=true):fnLt M f=true:=by
 cases f<;>simp_all [fnLt];omega
mutual
theorem zAu {N M:Nat} (h:N≤M):∀ v:AV,v.lt N=true→v.lt M=true
 | .ptr l _,hv=>by simp [AV.lt] at *;omega
 | .eptr l _ _ _,hv=>by simp [AV.lt] at *;omega
 | .gsl l _,hv=>by simp [AV.lt] at *;omega
 | .wsl l _ _ _,hv=>by simp [AV.lt] at *;omega
 | .map l,hv=>by simp [AV.lt] at *;omega
 | .func f a b,hv=>by
  simp only [AV.lt,Bool.and_eq_true] at *
  exact ⟨fnLt_mono h hv.1,ltL_mono h a hv.2.1,ltL_mono h b hv.2.2⟩
 | .iface _ v,hv=>by simp only [AV.lt] at *;exact zAu h v hv
 | .agg cs,hv=>by simp only [AV.lt] at *;exact ltL_mono h cs hv
 | .tup cs,hv=>by simp only [AV.lt] at *;exact ltL_mono h cs hv
 | .int _ _,_=>rfl
 | .bool _,_=>rfl
 | .nilp,_=>rfl
 | .vptr _ _,_=>rfl
 | .sl _ _,_=>rfl
 | .nilmap,_=>rfl
 | .nilFunc,_=>rfl
 | .nilIface,_=>rfl
 | .undef,_=>rfl
theorem ltL_mono {N M:Nat} (h:N≤M):∀ l:List AV,ltL N l=true→ltL M l=true
 | [],_=>rfl
 | v::r,hl=>by
  simp only [ltL,Bool.and_eq_true] at *
  exact ⟨zAu h v hl.1,ltL_mono h r hl.2⟩
end
theorem RelL.length {c:Cx}:∀ {l:List AV} {ys:List Value},RelL c l ys→l.length=ys.length
 | [],ys,h=>by simp only [RelL] at h;subst h;rfl
 | v::r,ys,h=>by
  simp only [RelL] at h
  obtain ⟨y,s,rfl,_,hr⟩:=h
  simp [RelL.length hr]
theorem Kind.refl (o:AO):Kind o o:=by cases o<;>simp [Kind]
theorem Kind.trans {a b c:AO} (h:Kind a b) (h':Kind b c):Kind a c:=by
 cases a<;>cases b<;>simp only [Kind] at h<;>cases c<;>simp only [Kind] at h' ⊢
 all_goals first
  | exact ⟨h'.1.trans h.1,Nat.le_trans h.2 h'.2⟩
  | exact h'.trans h
  | exact ⟨h'.1.trans h.1,h'.2.trans h.2⟩
theorem Kind.mp {a b:AO} (h:Kind a b) (ha:a.mp=true):b.mp=true:=by
 cases a<;>cases b<;>simp_all [Kind,AO.mp]
theorem AO.mp_ng {x:AO} (h:x.mp=true):∀ sz xs,x≠.grow sz xs:=by
 rintro sz xs rfl;cases h
def SysEq (w w':World):Prop:=w'.os=w.os∧w'.tape=w.tape∧w'.output=w.output
theorem SysEq.trans {a b c:World} (h:SysEq a b) (h':SysEq b c):SysEq a c:=⟨h'.1.trans h.1,h'.2.1.trans h.2.1,h'.2.2.trans h.2.2⟩
structure Ext (c c':Cx):Prop where
 sys:SysEq c.w c'.w
 size:c.w.heap.size≤c'.w.heap.size
 kind:∀ (l:Nat) (o:AO),c.H[l]? = some o→∃ o',c'.H[l]? = some o'∧Kind o o'
 grow:∀ (l sz:Nat) xs xs',c.H[l]? = some (.grow sz xs)→c'.H[l]? = some (.grow sz xs')→xs'.length=xs.length→c'.ρ l=c.ρ l
 same:∀ (l b:Nat) (o:AO),c.H[l]? = some o→c.ρ l=some b→(∀ sz xs,o≠.grow sz xs)→c'.ρ l=some b
 kept:∀ b,b<c.w.heap.size→¬ c.owned b→¬ c'.owned b∧c'.w.heap[b]? = c.w.heap[b]?
 cells:∀ (b:Nat) (cs:Array Value) (T:TypeId) (fr:Nat×Nat),c.w.heap[b]? = some (.cells cs T fr)→∃ cs' fr',c'.w.heap[b]? = some (.cells cs' T fr')∧cs'.size=cs.size
theorem Ext.refl (c:Cx):Ext c c where
 sys:=⟨rfl,rfl,rfl⟩
 size:=Nat.le_refl _
 kind _ o h:=⟨o,h,Kind.refl o⟩
 grow _ _ _ _ _ _ _:=rfl
 same _ _ _ _ h _:=h
 kept _ _ h:=⟨h,rfl⟩
 cells _ cs _ fr h:=⟨cs,fr,h,rfl⟩
theorem Ext.len {c c':Cx} (h:Ext c c'):c.H.length≤c'.H.length:=by
 refine Nat.le_of_not_lt fun hl=>?_
 obtain ⟨o,ho,_⟩:=h.kind c'.H.length c.H[c'.H.length] (List.getElem?_eq_getElem hl)
 simp at ho
theorem Ext.trans {a b c:Cx} (h:Ext a b) (h':Ext b c):Ext a c where
 sys:=h.sys.trans h'.sys
 size:=Nat.le_trans h.size h'.size
 kind l o ho:=by
  obtain ⟨o1,h1,k1⟩:=h.kind l o ho
  obtain ⟨o2,h2,k2⟩:=h'.kind l o1 h1
  exact ⟨o2,h2,k1.trans k2⟩
 grow l sz xs ys hx hy e:=by
  obtain ⟨o1,h1,k1⟩:=h.kind l _ hx
  cases o1<;>simp only [Kind] at k1
  rename_i s zs
  obtain ⟨rfl,k1⟩:=k1
  obtain ⟨o2,h2,k2⟩:=h'.kind l _ h1
  rw [hy] at h2
  cases h2
  simp only [Kind] at k2
  exact (h'.grow l _ zs ys h1 hy (by omega)).trans (h.grow l _ xs zs hx h1 (by omega))
 same l d o ho hl hn:=by
  obtain ⟨o1,h1,k1⟩:=h.kind l o ho
  refine h'.same l d o1 h1 (h.same l d o ho hl hn) ?_
  rintro sz xs rfl
  cases o<;>simp only [Kind] at k1
  exact hn _ _ rfl
 kept d hd ho:=by
  obtain ⟨h1,h2⟩:=h.kept d hd ho
  obtain ⟨h3,h4⟩:=h'.kept d (Nat.lt_of_lt_of_le hd h.size) h1
  exact ⟨h3,h4.trans h2⟩
 cells d cs T fr hd:=by
  obtain ⟨c1,f1,h1,h2⟩:=h.cells d cs T fr hd
  obtain ⟨c2,f2,h3,h4⟩:=h'.cells d c1 T f1 h1
  exact ⟨c2,f2,h3,h4.trans h2⟩
theorem RelFn.ext {c c':Cx} (h:Ext c c') {f g:Fn} (hf:RelFn c f g):RelFn c' f g:=by
 cases f<;>simp only [RelFn] at hf ⊢<;>try exact hf
 obtain ⟨b,h1,⟨r,h2⟩,rfl⟩:=hf
 obtain ⟨o,h3,k⟩:=h.kind _ _ h2
 cases o<;>simp only [Kind] at k
 exact ⟨b,h.same _ _ _ h2 h1 (by simp),⟨_,h3⟩,rfl⟩
theorem cell_heap {w w':World} {b:Nat} (h:w'.heap[b]? = w.heap[b]?) (o:Nat):w'.cell? ⟨b,o,none⟩=w.cell? ⟨b,o,none⟩:=by
 simp [World.cell?,h]
theorem Lies.ext {c c':Cx} (h:Ext c c') {b o:Nat} {l:List Value} (hb:b<c.w.heap.size) (ho:¬ c.owned b) (hl:Lies c.w b o l):Lies c'.w b o l :=
 fun k hk=>(cell_heap (h.kept b hb ho).2 _).trans (hl k hk)
mutual
theorem Rel.ext {c c':Cx} (h:Ext c c'):∀ (v:AV) (y:Value),Rel c v y→Rel c' v y
 | .int _ _,y,r=>by simpa only [Rel] using r
 | .bool _,y,r=>by simpa only [Rel] using r
 | .nilp,y,r=>by simpa only [Rel] using r
 | .ptr l off,y,r=>by
  simp only [Rel] at r ⊢
  obtain ⟨b,h1,⟨x,h2,hx⟩,rfl⟩:=r
  obtain ⟨o,h3,k⟩:=h.kind _ _ h2
  exact ⟨b,h.same _ _ _ h2 h1 (by rintro _ _ rfl;cases hx),⟨_,h3,k.bx hx⟩,rfl⟩
 | .eptr l n i off,y,r=>by
  simp only [Rel] at r ⊢
  obtain ⟨b,p,sz,xs,rfl,hx,hn,r⟩:=r
  obtain ⟨o,h1,k⟩:=h.kind _ _ hx
  cases o<;>simp only [Kind] at k
  rename_i s zs
  obtain ⟨rfl,k⟩:=k
  refine ⟨b,p,_,zs,rfl,h1,by omega,fun e=>?_⟩
  obtain ⟨h2,h3⟩:=r (by omega)
  exact ⟨by rw [h.grow l _ xs zs hx h1 (by omega)];exact h2,h3⟩
 | .vptr e off,y,r=>by
  simp only [Rel] at r ⊢
  obtain ⟨hp,b,o,z,rfl,hb,ho,hz,hl⟩:=r
  exact ⟨hp,b,o,z,rfl,Nat.lt_of_lt_of_le hb h.size,(h.kept b hb ho).1,Rel.ext h e z hz,hl.ext h hb ho⟩
 | .sl f es,y,r=>by
  simp only [Rel] at r ⊢
  obtain ⟨a,cap,rfl,hf,hp,r⟩:=r
  refine ⟨a,cap,rfl,hf,hp,r.imp id ?_⟩
  rintro ⟨b,o,sz,ys,rfl,hb,ho,hz,hs,hl⟩
  exact ⟨b,o,sz,ys,rfl,Nat.lt_of_lt_of_le hb h.size,(h.kept b hb ho).1,RelL.ext h es ys hz,hs,hl.ext h hb ho⟩
 | .gsl l n,y,r=>by
  simp only [Rel] at r ⊢
  obtain ⟨a,cap,sz,xs,rfl,hx,hn,r⟩:=r
  obtain ⟨o,h1,k⟩:=h.kind _ _ hx
  cases o<;>simp only [Kind] at k
  rename_i s zs
  obtain ⟨rfl,k⟩:=k
  refine ⟨a,cap,_,zs,rfl,h1,⟨by omega,hn.2⟩,fun e=>?_⟩
  rcases r (by omega) with ⟨h2,h3⟩ | ⟨b,cs,T,fr,h2,h3,h4,h5,h6⟩
  ·exact .inl ⟨by rw [h.grow l _ xs zs hx h1 (by omega)];exact h2,h3⟩
  ·obtain ⟨cs',fr',h7,h8⟩:=h.cells b cs T fr h5
   exact .inr ⟨b,cs',T,fr',by rw [h.grow l _ xs zs hx h1 (by omega)];exact h2,h3,h4,h7,by rw [h8];exact h6⟩
 | .wsl l n i off,y,r=>by
  simp only [Rel] at r ⊢
  obtain ⟨b,cap,sz,xs,rfl,hx,hn,r⟩:=r
  obtain ⟨o,h1,k⟩:=h.kind _ _ hx
  cases o<;>simp only [Kind] at k
  rename_i s zs
  obtain ⟨rfl,k⟩:=k
  refine ⟨b,cap,_,zs,rfl,h1,⟨hn.1,by omega⟩,fun e=>?_⟩
  obtain ⟨h2,h3⟩:=r (by omega)
  exact ⟨by rw [h.grow l _ xs zs hx h1 (by omega)];exact h2,h3⟩
 | .map l,y,r=>by
  simp only [Rel] at r ⊢
  obtain ⟨b,h1,⟨x,h2,hx⟩,rfl⟩:=r
  obtain ⟨o,h3,k⟩:=h.kind _ _ h2
  exact ⟨b,h.same _ _ _ h2 h1 (AO.mp_ng hx),⟨_,h3,k.mp hx⟩,rfl⟩
 | .nilmap,y,r=>by simpa only [Rel] using r
 | .func f a b,y,r=>by
  simp only [Rel] at r ⊢
  obtain ⟨g,a',b',rfl,hf,ha,hb⟩:=r
  exact ⟨g,a',b',rfl,hf.ext h,RelL.ext h a _ ha,RelL.ext h b _ hb⟩
 | .nilFunc,y,r=>by simpa only [Rel] using r
 | .iface t x,y,r=>by
  simp only [Rel] at r ⊢
  obtain ⟨z,rfl,hz⟩:=r
  exact ⟨z,rfl,Rel.ext h x z hz⟩
 | .nilIface,y,r=>by simpa only [Rel] using r
 | .agg cs,y,r=>by
  simp only [Rel] at r ⊢
  obtain ⟨a,rfl,ha⟩:=r
  exact ⟨a,rfl,RelL.ext h cs _ ha⟩
 | .tup cs,y,r=>by
  simp only [Rel] at r ⊢
  obtain ⟨a,rfl,ha⟩:=r
  exact ⟨a,rfl,RelL.ext h cs _ ha⟩
 | .undef,y,r=>by simp only [Rel]
theorem RelL.ext {c c':Cx} (h:Ext c c'):∀ (l:List AV) (ys:List Value),RelL c l ys→RelL c' l ys
 | [],ys,r=>by simpa only [RelL] using r
 | v::l,ys,r=>by
  simp only [RelL] at r ⊢
  obtain ⟨y,s,rfl,hy,hs⟩:=r
  exact ⟨y,s,rfl,Rel.ext h v y hy,RelL.ext h l s hs⟩
end
theorem zBc.ext {c c':Cx} (h:Ext c c') {e:Env} {t:Array Value} (r:zBc c e t):zBc c' e t:=fun k=>Rel.ext h _ _ (r k)
theorem RelM.ext {c c':Cx} (h:Ext c c'):∀ (m:List (AV×AV)) (l:List MapEntry) (i:Nat),RelM c m l i→RelM c' m l i
 | [],l,i,r=>by simpa only [RelM] using r
 | (k,v)::m,l,i,r=>by
  simp only [RelM] at r ⊢
  obtain ⟨e,s,rfl,hk,hv,hb,hr⟩:=r
  exact ⟨e,s,rfl,Rel.ext h _ _ hk,Rel.ext h _ _ hv,hb,RelM.ext h m s _ hr⟩
def Cx.drop (c:Cx) (N:Nat):Cx:=⟨c.w,fun l=>if l<N then c.ρ l else none,c.H.take N⟩
theorem drop_owned {c:Cx} {N b:Nat} (h:¬ c.owned b):¬ (c.drop N).owned b:=by
 rintro ⟨l,hl⟩
 simp only [Cx.drop] at hl
 split at hl
 ·exact h ⟨l,hl⟩
 ·cases hl
theorem RelFn.drop {c:Cx} {N:Nat} {f g:Fn} (hf:RelFn c f g) (hl:fnLt N f=true):RelFn (c.drop N) f g:=by
 cases f<;>simp only [RelFn] at hf ⊢<;>try exact hf
 simp only [fnLt,decide_eq_true_eq] at hl
 obtain ⟨b,h1,⟨r,h2⟩,rfl⟩:=hf
 exact ⟨b,by simp [Cx.drop,hl,h1],⟨r,by simp [Cx.drop,hl,h2]⟩,rfl⟩
mutual
theorem Rel.drop {c:Cx} {N:Nat}:∀ (v:AV) (y:Value),Rel c v y→v.lt N=true→Rel (c.drop N) v y
 | .int _ _,y,r,_=>by simpa only [Rel] using r
 | .bool _,y,r,_=>by simpa only [Rel] using r
 | .nilp,y,r,_=>by simpa only [Rel] using r
 | .ptr l off,y,r,hN=>by
  simp only [Rel] at r ⊢
  simp only [AV.lt,decide_eq_true_eq] at hN
  obtain ⟨b,h1,⟨x,h2,hx⟩,rfl⟩:=r
  exact ⟨b,by simp [Cx.drop,hN,h1],⟨x,by simp [Cx.drop,hN,h2],hx⟩,rfl⟩
 | .eptr l n i off,y,r,hN=>by
  simp only [Rel] at r ⊢
  simp only [AV.lt,decide_eq_true_eq] at hN
  obtain ⟨b,p,sz,xs,rfl,hx,hn,r⟩:=r
  exact ⟨b,p,sz,xs,rfl,by simp [Cx.drop,hN,hx],hn,by simpa [Cx.drop,hN] using r⟩
 | .vptr e off,y,r,hN=>by
  simp only [Rel] at r ⊢
  obtain ⟨hp,b,o,z,rfl,hb,ho,hz,hl⟩:=r
  exact ⟨hp,b,o,z,rfl,hb,drop_owned ho,Rel.drop e z hz (zAu (Nat.zero_le _) e hp.1),hl⟩
 | .sl f es,y,r,hN=>by
  simp only [Rel] at r ⊢
  obtain ⟨a,cap,rfl,hf,hp,r⟩:=r
  refine ⟨a,cap,rfl,hf,hp,r.imp id ?_⟩
  rintro ⟨b,o,sz,ys,rfl,hb,ho,hz,hs,hl⟩
  exact ⟨b,o,sz,ys,rfl,hb,drop_owned ho,RelL.drop es ys hz (ltL_mono (Nat.zero_le _) es hp.1),hs,hl⟩
 | .gsl l n,y,r,hN=>by
  simp only [Rel] at r ⊢
  simp only [AV.lt,decide_eq_true_eq] at hN
  obtain ⟨a,cap,sz,xs,rfl,hx,hn,r⟩:=r
  exact ⟨a,cap,sz,xs,rfl,by simp [Cx.drop,hN,hx],hn,by simpa [Cx.drop,hN] using r⟩
 | .wsl l n i off,y,r,hN=>by
  simp only [Rel] at r ⊢
  simp only [AV.lt,decide_eq_true_eq] at hN
  obtain ⟨b,cap,sz,xs,rfl,hx,hn,r⟩:=r
  exact ⟨b,cap,sz,xs,rfl,by simp [Cx.drop,hN,hx],hn,by simpa [Cx.drop,hN] using r⟩
 | .map l,y,r,hN=>by
  simp only [Rel] at r ⊢
  simp only [AV.lt,decide_eq_true_eq] at hN
  obtain ⟨b,h1,⟨x,h2,hx⟩,rfl⟩:=r
  exact ⟨b,by simp [Cx.drop,hN,h1],⟨x,by simp [Cx.drop,hN,h2],hx⟩,rfl⟩
 | .nilmap,y,r,_=>by simpa only [Rel] using r
 | .func f a b,y,r,hN=>by
  simp only [Rel] at r ⊢
  simp only [AV.lt,Bool.and_eq_true] at hN
  obtain ⟨g,a',b',rfl,hf,ha,hb⟩:=r
  exact ⟨g,a',b',rfl,hf.drop hN.1,RelL.drop a _ ha hN.2.1,RelL.drop b _ hb hN.2.2⟩
 | .nilFunc,y,r,_=>by simpa only [Rel] using r
 | .iface t x,y,r,hN=>by
  simp only [Rel] at r ⊢
  simp only [AV.lt] at hN
  obtain ⟨z,rfl,hz⟩:=r
  exact ⟨z,rfl,Rel.drop x z hz hN⟩
 | .nilIface,y,r,_=>by simpa only [Rel] using r
 | .agg cs,y,r,hN=>by
  simp only [Rel] at r ⊢
  simp only [AV.lt] at hN
  obtain ⟨a,rfl,ha⟩:=r
  exact ⟨a,rfl,RelL.drop cs _ ha hN⟩
 | .tup cs,y,r,hN=>by
  simp only [Rel] at r ⊢
  simp only [AV.lt] at hN
  obtain ⟨a,rfl,ha⟩:=r
  exact ⟨a,rfl,RelL.drop cs _ ha hN⟩
 | .undef,y,r,_=>by simp only [Rel]
theorem RelL.drop {c:Cx} {N:Nat}:∀ (l:List AV) (ys:List Value),RelL c l ys→ltL N l=true→RelL (c.drop N) l ys
 | [],ys,r,_=>by simpa only [RelL] using r
 | v::l,ys,r,hN=>by
  simp only [RelL] at r ⊢
  simp only [ltL,Bool.and_eq_true] at hN
  obtain ⟨y,s,rfl,hy,hs⟩:=r
  exact ⟨y,s,rfl,Rel.drop v y hy hN.1,RelL.drop l s hs hN.2⟩
end
theorem envLt_get {N:Nat}:∀ {e:Env},envLt N e=true→∀ k,(e.get k).lt N=true
 | [],_,_=>rfl
 | (a,v)::r,h,k=>by
  simp only [envLt,Bool.and_eq_true] at h
  simp only [Env.get]
  split
  ·exact h.1
  ·exact envLt_get h.2 k
theorem zBc.drop {c:Cx} {N:Nat} {e:Env} {t:Array Value} (r:zBc c e t) (h:envLt N e=true):zBc (c.drop N) e t :=
 fun k=>Rel.drop _ _ (r k) (envLt_get h k)
theorem RelM.drop {c:Cx} {N:Nat}:∀ (m:List (AV×AV)) (l:List MapEntry) (i:Nat),RelM c m l i→mapLt N m=true→RelM (c.drop N) m l i
 | [],l,i,r,_=>by simpa only [RelM] using r
 | (k,v)::m,l,i,r,h=>by
  simp only [RelM] at r ⊢
  simp only [mapLt,Bool.and_eq_true] at h
  obtain ⟨e,s,rfl,hk,hv,hb,hr⟩:=r
  exact ⟨e,s,rfl,Rel.drop _ _ hk h.1,Rel.drop _ _ hv h.2.1,hb,RelM.drop m s _ hr h.2.2⟩
theorem RelO.drop {P:Program} {c:Cx} {N b:Nat} {o:AO} (r:RelO P c b o) (h:o.lt N=true):RelO P (c.drop N) b o:=by
 cases o with
 | box v =>
  obtain ⟨y,T,h1,h2,h3,h4⟩:=r
  exact ⟨y,T,h1,Rel.drop _ _ h2 h,h3,h4⟩
 | grow sz xs =>
  obtain ⟨ys,rest,T,h1,h2,h3,h4,h5⟩:=r
  exact ⟨ys,rest,T,h1,RelL.drop _ _ h2 (ltL_mono (Nat.zero_le _) xs h4),h3,h4,h5⟩
 | map kt es =>
  obtain ⟨l,h1,h2,h3⟩:=r
  exact ⟨l,h1,RelM.drop _ _ _ h2 h,h3⟩
 | loop r' =>
  obtain ⟨t,d,h1,h2,h3,h4,x,h5,h6⟩:=r
  simp only [AO.lt,Bool.and_eq_true,decide_eq_true_eq] at h
  exact ⟨t,d,h1,h2.drop h.1,h3,by simp [Cx.drop,h.2,h4],x,by simp [Cx.drop,h.2,h5],h6⟩
 | dfr=>exact r
 | dead=>trivial
 | iter m n seen =>
  obtain ⟨d,h1,h2,x,h3,h4⟩:=r
  simp only [AO.lt,decide_eq_true_eq] at h
  exact ⟨d,h1,by simp [Cx.drop,h,h2],x,by simp [Cx.drop,h,h3],h4⟩
 | dmap kt es i =>
  obtain ⟨l,h1,h2,h3⟩:=r
  exact ⟨l,h1,RelM.drop _ _ _ h2 h,h3⟩
theorem RelO.ext {P:Program} {c c':Cx} (h:Ext c c') {b:Nat} {o:AO} (hb:c'.w.heap[b]? = c.w.heap[b]?) (r:RelO P c b o):RelO P c' b o:=by
 cases o with
 | box v =>
  obtain ⟨y,T,h1,h2,h3,h4⟩:=r
  exact ⟨y,T,hb.trans h1,Rel.ext h _ _ h2,h3,h4⟩
 | grow sz xs =>
  obtain ⟨ys,rest,T,h1,h2,h3,h4,h5⟩:=r
  exact ⟨ys,rest,T,hb.trans h1,RelL.ext h _ _ h2,h3,h4,h5⟩
 | map kt es =>
  obtain ⟨l,h1,h2,h3⟩:=r
  exact ⟨l,hb.trans h1,RelM.ext h _ _ _ h2,h3⟩
 | loop r' =>
  obtain ⟨t,d,h1,h2,h3,h4,x,h5,h6⟩:=r
  obtain ⟨x',h7,h8⟩:=h.kind _ _ h5
  exact ⟨t,d,hb.trans h1,h2.ext h,h3,h.same _ _ x h5 h4 (by rintro _ _ rfl;exact h6),x',h7,h6.trans h8⟩
 | dfr=>exact hb.trans r
 | dead=>trivial
 | iter m n seen =>
  obtain ⟨d,h1,h2,x,h3,hx⟩:=r
  obtain ⟨x',h4,h5⟩:=h.kind _ _ h3
  exact ⟨d,hb.trans h1,h.same _ _ _ h3 h2 (AO.mp_ng hx),x',h4,h5.mp hx⟩
 | dmap kt es i =>
  obtain ⟨l,h1,h2,h3⟩:=r
  exact ⟨l,hb.trans h1,RelM.ext h _ _ _ h2,h3⟩
theorem getElem?_of_heapLt {N:Nat}:∀ {H:Heap},heapLt N H=true→∀ {l:Nat} {o:AO},H[l]? = some o→o.lt N=true
 | [],_,l,o,h=>by simp at h
 | x::r,hh,l,o,h=>by
  simp only [heapLt,Bool.and_eq_true] at hh
  cases l with
  | zero=>simp at h;subst h;exact hh.1
  | succ l=>exact getElem?_of_heapLt hh.2 (by simpa using h)
theorem GlobOk.ext {c c':Cx} (hg:GlobOk c) (h:Ext c c'):GlobOk c':=fun g v hm=>Rel.ext h _ _ (hg g v hm)
theorem Sim.drop {P:Program} {B:Nat} {c:Cx} (h:Sim P B c) {N:Nat} (hN:∀ l o,l<N→c.H[l]? = some o→o.lt N=true):Sim P B (c.drop N) where
 obj l b hl:=by
  simp only [Cx.drop] at hl
  split at hl
  ·rename_i hlt
   obtain ⟨o,ho,hr⟩:=h.obj l b hl
   exact ⟨o,by simp [Cx.drop,hlt,ho],hr.drop (hN l o hlt ho)⟩
  ·cases hl
 inj l l' b hl hl':=by
  simp only [Cx.drop] at hl hl'
  split at hl<;>split at hl'<;>first | exact h.inj l l' b hl hl' | (cases hl;done) | (cases hl';done)
 lo l b hl:=by
  simp only [Cx.drop] at hl
  split at hl
  ·exact h.lo l b hl
  ·cases hl
 glob g v hm:=Rel.drop _ _ (h.glob g v hm) rfl
end Go.Ab
