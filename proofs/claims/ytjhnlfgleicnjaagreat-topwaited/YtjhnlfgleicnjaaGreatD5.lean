/- A region that asks for an order: the variables that it makes; one operation of the machine's order. -/
import Derived.Test.YtjhnlfgleicnjaaGreatD4
namespace Go.Ab
set_option linter.unusedSimpArgs false
set_option linter.unusedVariables false
section
variable {C:Cfg} {P:Program} {B:Nat} {F:FI} {c:Cx}
def Cx.real (c:Cx) (l:Nat) (o:Obj):Cx:=⟨{ c.w with heap:=c.w.heap.push o },fun l'=>if l'=l then some c.w.heap.size else c.ρ l',c.H⟩
theorem real_ext {l:Nat} {o:Obj} {v:AO} (hl:c.ρ l=none) (hH:c.H[l]? = some v) (hg:∀ sz xs,v≠.grow sz xs):Ext c (c.real l o) where
 sys:=⟨rfl,rfl,rfl⟩
 size:=by simp [Cx.real]
 kind l' x hx:=⟨x,hx,Kind.refl x⟩
 grow l' sz xs xs' hx _ _:=by
  simp only [Cx.real]
  rw [if_neg]
  rintro rfl
  rw [hH] at hx;cases hx;exact hg _ _ rfl
 same l' b x _ hx _:=by
  simp only [Cx.real]
  rw [if_neg]
  ·exact hx
  ·rintro rfl;rw [hl] at hx;cases hx
 kept b hb ho:=by
  refine ⟨?_,by simp only [Cx.real];rw [Array.getElem?_push_lt hb,Array.getElem?_eq_getElem hb]⟩
  rintro ⟨l',hl'⟩
  simp only [Cx.real] at hl'
  split at hl'
  ·cases hl';omega
  ·exact ho ⟨l',hl'⟩
 cells b cs T fr hb:=⟨cs,fr,by
  have hlt:=(Array.getElem?_eq_some_iff.1 hb).1
  simp only [Cx.real];rw [Array.getElem?_push_lt hlt,← Array.getElem?_eq_getElem hlt];exact hb,rfl⟩
theorem real_trb {tb base l:Nat} {o:Obj} {v:AO} (hb:tb≤l) (hl:c.ρ l=none) (hH:c.H[l]? = some v) (hg:∀ sz xs,v≠.grow sz xs):TrB tb base c (c.real l o) where
 sys:=⟨rfl,rfl,rfl⟩
 size:=(real_ext hl hH hg).size
 kind l o _:=(real_ext hl hH hg).kind l o
 grow l sz xs xs' _:=(real_ext hl hH hg).grow l sz xs xs'
 same l b o _:=(real_ext hl hH hg).same l b o
 kept:=(real_ext hl hH hg).kept
 cells:=(real_ext hl hH hg).cells
 un l' x hlt hx hn _:=by
  refine ⟨?_,hx⟩
  simp only [Cx.real]
  rw [if_neg (by omega)]
  exact hn
 lt l' N x x' _ hx hx' _ h:=by
  simp only [Cx.real] at hx'
  rw [hx] at hx';cases hx';exact h
def PhOk (C:Cfg) (op:Op) (x:AO):Prop :=
 (∃ t ty,op=.alloc t∧C.ty t=some ty∧ty.zeroOk=true∧x=.box ty.zv)∨(∃ t kt,op=.makeMap t none∧x=.map kt [])
theorem PhOk.ng {op:Op} {x:AO} (h:PhOk C op x):∀ sz xs,x≠.grow sz xs:=by
 rcases h with ⟨_,_,_,_,_,rfl⟩ | ⟨_,_,_,rfl⟩<;>intro _ _ h<;>cases h
theorem real_sim' (hs:Sim P B c) (hB:B≤c.w.heap.size) {l:Nat} {v:AO} {o:Obj} (hl:c.ρ l=none) (hH:c.H[l]? = some v) (hg:∀ sz xs,v≠.grow sz xs) (ho:RelO P (c.real l o) c.w.heap.size v) :
  Sim P B (c.real l o) where
 obj l' b hb:=by
  simp only [Cx.real] at hb
  split at hb
  ·rename_i e;subst e;cases hb
   exact ⟨_,hH,ho⟩
  ·obtain ⟨x,hx,hr⟩:=hs.obj l' b hb
   refine ⟨x,hx,hr.ext (real_ext hl hH hg) ?_⟩
   have hlt:=(hs.lo l' b hb).2
   simp only [Cx.real];rw [Array.getElem?_push_lt hlt,Array.getElem?_eq_getElem hlt]
 inj l1 l2 b h1 h2:=by
  simp only [Cx.real] at h1 h2
  split at h1<;>split at h2
  ·omega
  ·cases h1;have:=(hs.lo l2 _ h2).2;omega
  ·cases h2;have:=(hs.lo l1 _ h1).2;omega
  ·exact hs.inj l1 l2 b h1 h2
 lo l' b hb:=by
  simp only [Cx.real] at hb ⊢
  split at hb
  ·cases hb;simp;exact hB
  ·have:=hs.lo l' b hb;simp;omega
 glob:=hs.glob.ext (real_ext hl hH hg)
theorem real_sim (hs:Sim P B c) (hB:B≤c.w.heap.size) {l:Nat} {T:TypeId} {v:AV} {y:Value} (hl:c.ρ l=none) (hH:c.H[l]? = some (.box v)) (hv:Rel c v y) (hk:known v=true) (hc:P.cellsOf T=y.cells.size) :
  Sim P B (c.real l (.cells y.cells T (0,0))) :=
 real_sim' hs hB hl hH (by simp) ⟨y,T,Array.getElem?_push_size,Rel.ext (real_ext hl hH (by simp)) _ _ hv,hc,hk⟩
theorem real_simM (hs:Sim P B c) (hB:B≤c.w.heap.size) {l:Nat} {kt:TypeId} (hl:c.ρ l=none) (hH:c.H[l]? = some (.map kt [])):Sim P B (c.real l (.map #[] 0)) :=
 real_sim' hs hB hl hH (by simp) ⟨[],Array.getElem?_push_size,by simp [RelM],by simp⟩
theorem seg {α:Type} (f:Nat→α) (N:Nat):∀ (k p q:Nat),q=p+k→q≤N→(∀ i,i<N→f (i+1)≠f i→(i<p↔i<q))→f p=f q
 | 0,p,q,h,_,_=>by subst h;rfl
 | k+1,p,q,h,hq,hc=>by
  have h1:f (p+k+1)=f (p+k):=by
   refine Classical.byContradiction fun hne=>?_
   have:=hc (p+k) (by omega) hne
   omega
  have h2:=seg f N k p (p+k) rfl (by omega) (fun i hi hne=>by
   have:=hc i hi hne
   constructor
   ·intro;omega
   ·intro hlt
    have:i<q:=by omega
    omega)
  rw [h2,h,← Nat.add_assoc,h1]
theorem seg' {α:Type} (f:Nat→α) (N p q:Nat) (hp:p≤N) (hq:q≤N) (hc:∀ i,i<N→f (i+1)≠f i→(i<p↔i<q)):f p=f q:=by
 rcases Nat.le_total p q with h | h
 ·exact seg f N (q-p) p q (by omega) hq hc
 ·exact (seg f N (p-q) q p (by omega) hp (fun i hi hne=>(hc i hi hne).symm)).symm
structure Text (C:Cfg) (P:Program) (F:FI) (opl:Array Oper) (ps:List (Nat×Nat)) (A:Nat→Nat→Prop) (n:Nat) (E:Nat→Env) (Hs:Nat→Heap) (Lx:Nat→Nat) (V:Nat→AV) (X:Nat→Prop):Prop where
 plan:Plan P opl ps A
 step:∀ (j:Nat) (o:Oper),opl.toList[j]? = some o→¬ X j→StepD C P F opl.toList n o (E j) (Hs j) (Lx j) (V j) (Hs (j+1))
 next:∀ (j:Nat) (o:Oper),opl.toList[j]? = some o→E (j+1)=(E j).put o.dst (V j)∧Lx (j+1)=nextL o (Lx j)
 still:∀ j,X j→Hs (j+1)=Hs j
 look:∀ (j i:Nat) (oj oi:Oper) (q:RD),(j,i)∈ps→¬ X j→opl.toList[j]? = some oj→opl.toList[i]? = some oi→zAf opl.toList (E j) oj=some true→zAl oj.op=false→(∃ v H1,evOpD C P F (Hs j) (E j) oj (Lx j)=some (.val v H1)) →
  zAp C (E j) oj.op=some q→zAl oi.op=true→seen (Hs (i+1)) q=seen (Hs i) q
 base:F.base≤Lx 0
structure DInv (C:Cfg) (P:Program) (B:Nat) (F:FI) (opl:Array Oper) (E:Nat→Env) (Hs:Nat→Heap) (Lx:Nat→Nat) (V:Nat→AV) (D:Nat→Prop) (c:Cx) (tm:Array Value):Prop where
 closed:∀ (j:Nat) (o:Oper),opl.toList[j]? = some o→D j→∀ e∈o.after.toList,Region.binds .any e=true→D e.on
 sim:Sim P B c
 hb:HB F.base c.H
 lo:B≤c.w.heap.size
 heap:∃ m,m≤opl.size∧(∀ (j:Nat) (o:Oper),opl.toList[j]? = some o→zAl o.op=true→(j<m↔D j))∧c.H=Hs m
 env:∀ t,∃ p,p≤opl.size∧(∀ (j:Nat) (o:Oper),opl.toList[j]? = some o→o.dst=some t→(j<p↔D j))∧Rel c ((E p).get t) (tm.getD t Go.undef)
 val:∀ j,j<opl.size→D j→(V j).lt c.H.length=true
 ph:∀ (j:Nat) (o:Oper),opl.toList[j]? = some o→zAk o.op=true→¬ D j→c.ρ (Lx j)=none∧∃ x,PhOk C o.op x∧c.H[Lx j]? = some x
variable {opl:Array Oper} {ps:List (Nat×Nat)} {A:Nat→Nat→Prop} {n:Nat} {E:Nat→Env} {Hs:Nat→Heap} {Lx:Nat→Nat} {V:Nat→AV} {D:Nat→Prop} {tm:Array Value} {X:Nat→Prop}
theorem evOpD_call {H:Heap} {e:Env} {o:Oper} {l:Nat} {f:Fn} {x y:List AV} (h:evOpD C P F H e o l=some (.call f x y)):evOp C P F H e o=some (.call f x y)∧zAl o.op=true∧zAk o.op=false:=by
 have key:evOp C P F H e o=some (.call f x y)→zAl o.op=true∧zAk o.op=false:=by
  intro h
  rcases evOp_kind h with ⟨_,_,h1⟩ | ⟨cl,h1,h2⟩ | ⟨_,_,_,_,_,_,_,h1⟩ | ⟨_,_,_,_,_,h1⟩
  ·cases h1
  ·rw [h1]
   obtain ⟨callee,args,tys⟩:=cl
   cases callee with
   | builtin b =>
    simp only [zBi] at h2
    rcases evBuiltin_kind h2 with ⟨_,_,h⟩ | ⟨_,_,_,_,h⟩ | ⟨_,_,h⟩<;>cases h
   | invoke _ _=>exact ⟨rfl,rfl⟩
   | value _=>exact ⟨rfl,rfl⟩
  ·cases h1
  ·cases h1
 unfold evOpD at h
 split at h
 ·cases h
 ·cases h
 ·split at h
  ·cases h
  ·exact ⟨h,key h⟩
 ·split at h
  ·cases h
  ·exact ⟨h,key h⟩
 ·exact ⟨h,key h⟩
theorem order_of (T:Text C P F opl ps A n E Hs Lx V X) (I:DInv C P B F opl E Hs Lx V D c tm) {j:Nat} {o:Oper} (ho:opl.toList[j]? = some o) (hj:¬ D j) (hr:∀ e∈o.after.toList,Region.binds .any e=true→D e.on)
  {i:Nat} {a:Oper} (ha:opl.toList[i]? = some a) (hij:i≠j)
  (hne:∀ x y:Oper,(x=a∧y=o)∨(x=o∧y=a)→¬ (¬ (zAl x.op=true∧zAl y.op=true)∧(∀ d,x.dst=some d→d ∉ zBl opl.toList y)∧(∀ d,y.dst=some d→d ∉ zBl opl.toList x))) :
  D i↔i<j:=by
 have hjs:j<opl.size:=by simpa using (List.getElem?_eq_some_iff.1 ho).1
 have his:i<opl.size:=by simpa using (List.getElem?_eq_some_iff.1 ha).1
 rcases Nat.lt_or_gt_of_ne hij with h | h
 ·refine ⟨fun _=>h,fun _=>?_⟩
  rcases T.plan.pair i j a o h ha ho with hA | ⟨h1,h2,h3,_⟩
  ·exact closed_ahead T.plan I.closed j hjs (fun o' ho'=>by rw [ho] at ho';cases ho';exact hr) i hA
  ·exact absurd ⟨h1,h2,h3⟩ (hne a o (.inl ⟨rfl,rfl⟩))
 ·refine ⟨fun hD=>?_,fun hlt=>by omega⟩
  exfalso
  rcases T.plan.pair j i o a h ho ha with hA | ⟨h1,h2,h3,_⟩
  ·exact hj (closed_ahead T.plan I.closed i his (fun o' ho'=>I.closed i o' ho' hD) j hA)
  ·exact absurd ⟨h1,h2,h3⟩ (hne o a (.inr ⟨rfl,rfl⟩))
theorem heap_step (T:Text C P F opl ps A n E Hs Lx V X) {i:Nat} (h:Hs (i+1)≠Hs i) (hi:i<opl.size):∃ o,opl.toList[i]? = some o∧zAl o.op=true∧zAf opl.toList (E i) o=some true:=by
 have ho:opl.toList[i]? = some opl.toList[i]:=List.getElem?_eq_getElem (by simpa using hi)
 have h1:=T.step i _ ho (fun hx=>h (T.still i hx))
 refine ⟨_,ho,?_⟩
 cases h1 with
 | skip _ _ hH=>exact absurd hH h
 | val hw H1 _ hH =>
  split at hH
  ·rename_i he;exact ⟨he,hw⟩
  ·exact absurd hH h
 | call hw f x k m p h1 _ _=>exact ⟨(evOpD_call h1).2.1,hw⟩
theorem heap_at (T:Text C P F opl ps A n E Hs Lx V X) (I:DInv C P B F opl E Hs Lx V D c tm) {j:Nat} {o:Oper} (ho:opl.toList[j]? = some o) (hj:¬ D j) (hr:∀ e∈o.after.toList,Region.binds .any e=true→D e.on) (he:zAl o.op=true):c.H=Hs j:=by
 have hjs:j<opl.size:=by simpa using (List.getElem?_eq_some_iff.1 ho).1
 obtain ⟨m,hm,h1,h2⟩:=I.heap
 rw [h2]
 refine seg' Hs opl.size m j hm (by omega) fun i hi hne=>?_
 obtain ⟨a,ha,hae,_⟩:=heap_step T hne hi
 rw [h1 i a ha hae]
 by_cases hij:i=j
 ·subst hij;exact ⟨fun h=>absurd h hj,fun h=>by omega⟩
 ·refine order_of T I ho hj hr ha hij ?_
  rintro x y (⟨rfl,rfl⟩ | ⟨rfl,rfl⟩) ⟨h,_⟩
  ·exact h ⟨hae,he⟩
  ·exact h ⟨he,hae⟩
theorem look_at (T:Text C P F opl ps A n E Hs Lx V X) (I:DInv C P B F opl E Hs Lx V D c tm) {j:Nat} {o:Oper} (ho:opl.toList[j]? = some o) (hj:¬ D j) (hX:¬ X j) (hr:∀ e∈o.after.toList,Region.binds .any e=true→D e.on) (he:zAl o.op=false)
  (hw:zAf opl.toList (E j) o=some true) (hv:∃ v H1,evOpD C P F (Hs j) (E j) o (Lx j)=some (.val v H1)) {q:RD} (hq:zAp C (E j) o.op=some q):seen (Hs j) q=seen c.H q:=by
 have hjs:j<opl.size:=by simpa using (List.getElem?_eq_some_iff.1 ho).1
 obtain ⟨m,hm,h1,h2⟩:=I.heap
 rw [h2]
 refine (seg' (fun i=>seen (Hs i) q) opl.size m j hm (by omega) fun i hi hne=>?_).symm
 have hne':Hs (i+1)≠Hs i:=fun h=>hne (by simp only [h])
 obtain ⟨a,ha,hae,_⟩:=heap_step T hne' hi
 rw [h1 i a ha hae]
 have hij:i≠j:=by
  rintro rfl
  rw [ho] at ha;cases ha
  rw [he] at hae;cases hae
 have hps:(j,i) ∉ ps:=fun h=>hne (T.look j i o a q h hX ho ha hw he hv hq hae)
 have hrd:=readOf_reads hq
 rcases Nat.lt_or_gt_of_ne hij with h | h
 ·refine ⟨fun _=>h,fun _=>?_⟩
  rcases T.plan.pair i j a o h ha ho with hA | ⟨_,_,_,_,h5⟩
  ·exact closed_ahead T.plan I.closed j hjs (fun o' ho'=>by rw [ho] at ho';cases ho';exact hr) i hA
  ·exact absurd (h5 hae hrd) hps
 ·refine ⟨fun hD=>?_,fun hlt=>by omega⟩
  exfalso
  rcases T.plan.pair j i o a h ho ha with hA | ⟨_,_,_,h4,_⟩
  ·exact hj (closed_ahead T.plan I.closed i hi (fun o' ho'=>I.closed i o' ho' hD) j hA)
  ·exact absurd (h4 hrd hae) hps
theorem name_at (T:Text C P F opl ps A n E Hs Lx V X) (I:DInv C P B F opl E Hs Lx V D c tm) {j:Nat} {o:Oper} (ho:opl.toList[j]? = some o) (hj:¬ D j) (hr:∀ e∈o.after.toList,Region.binds .any e=true→D e.on) {t:Nat} (ht:t∈zBl opl.toList o) :
  Rel c ((E j).get t) (tm.getD t Go.undef):=by
 have hjs:j<opl.size:=by simpa using (List.getElem?_eq_some_iff.1 ho).1
 obtain ⟨p,hp,h1,h2⟩:=I.env t
 have:(E p).get t=(E j).get t:=by
  refine seg' (fun i=>(E i).get t) opl.size p j hp (by omega) fun i hi hne=>?_
  have ha:opl.toList[i]? = some opl.toList[i]:=List.getElem?_eq_getElem (by simpa using hi)
  obtain ⟨h3,_⟩:=T.next i _ ha
  have hd:(opl.toList[i]).dst=some t:=by
   refine Classical.byContradiction fun hn=>hne ?_
   simp only [h3]
   cases hdd:(opl.toList[i]).dst with
   | none=>rfl
   | some d =>
    simp only [Env.put,Env.get]
    rw [if_neg]
    rintro rfl
    exact hn hdd
  rw [h1 i _ ha hd]
  by_cases hij:i=j
  ·subst hij;exact ⟨fun h=>absurd h hj,fun h=>by omega⟩
  ·refine order_of T I ho hj hr ha hij ?_
   rintro x y (⟨rfl,rfl⟩ | ⟨rfl,rfl⟩) ⟨_,h4,h5⟩
   ·exact h4 t hd ht
   ·exact h5 t hd ht
 rw [← this]
 exact h2
end
end Go.Ab
