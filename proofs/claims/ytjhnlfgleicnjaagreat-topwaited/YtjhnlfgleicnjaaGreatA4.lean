/- Steps of an abstract state beside a real one: a new object, an object that is written, a growable slice that moves. -/
import Derived.Test.YtjhnlfgleicnjaaGreatA3
namespace Go.Ab
set_option linter.unusedSimpArgs false
set_option linter.unusedVariables false
mutual
theorem Rel.lt {c:Cx}:∀ (v:AV) (y:Value),Rel c v y→v.lt c.H.length=true
 | .int _ _,_,_=>rfl
 | .bool _,_,_=>rfl
 | .nilp,_,_=>rfl
 | .ptr l off,y,r=>by
  simp only [Rel] at r
  obtain ⟨b,h1,⟨x,h2,_⟩,rfl⟩:=r
  simp only [AV.lt,decide_eq_true_eq];exact (List.getElem?_eq_some_iff.1 h2).1
 | .eptr l n i off,y,r=>by
  simp only [Rel] at r
  obtain ⟨_,_,sz,xs,rfl,hx,_⟩:=r
  simp only [AV.lt,decide_eq_true_eq];exact (List.getElem?_eq_some_iff.1 hx).1
 | .vptr e off,_,_=>rfl
 | .sl f es,_,_=>rfl
 | .gsl l n,y,r=>by
  simp only [Rel] at r
  obtain ⟨a,cap,sz,xs,rfl,hx,_⟩:=r
  simp only [AV.lt,decide_eq_true_eq];exact (List.getElem?_eq_some_iff.1 hx).1
 | .wsl l n i off,y,r=>by
  simp only [Rel] at r
  obtain ⟨_,cap,sz,xs,rfl,hx,_⟩:=r
  simp only [AV.lt,decide_eq_true_eq];exact (List.getElem?_eq_some_iff.1 hx).1
 | .map l,y,r=>by
  simp only [Rel] at r
  obtain ⟨b,h1,⟨x,h2,_⟩,rfl⟩:=r
  simp only [AV.lt,decide_eq_true_eq];exact (List.getElem?_eq_some_iff.1 h2).1
 | .nilmap,_,_=>rfl
 | .func f a b,y,r=>by
  simp only [Rel] at r
  obtain ⟨g,a',b',rfl,hf,ha,hb⟩:=r
  simp only [AV.lt,Bool.and_eq_true]
  refine ⟨?_,RelL.lt a _ ha,RelL.lt b _ hb⟩
  cases f<;>simp only [fnLt]
  simp only [RelFn] at hf
  obtain ⟨_,_,⟨_,h⟩,_⟩:=hf
  simpa using (List.getElem?_eq_some_iff.1 h).1
 | .nilFunc,_,_=>rfl
 | .iface t x,y,r=>by
  simp only [Rel] at r
  obtain ⟨z,rfl,hz⟩:=r
  simp only [AV.lt];exact Rel.lt x z hz
 | .nilIface,_,_=>rfl
 | .agg cs,y,r=>by
  simp only [Rel] at r
  obtain ⟨a,rfl,ha⟩:=r
  simp only [AV.lt];exact RelL.lt cs _ ha
 | .tup cs,y,r=>by
  simp only [Rel] at r
  obtain ⟨a,rfl,ha⟩:=r
  simp only [AV.lt];exact RelL.lt cs _ ha
 | .undef,_,_=>rfl
theorem RelL.lt {c:Cx}:∀ (l:List AV) (ys:List Value),RelL c l ys→ltL c.H.length l=true
 | [],_,_=>rfl
 | v::l,ys,r=>by
  simp only [RelL] at r
  obtain ⟨y,s,rfl,hy,hs⟩:=r
  simp only [ltL,Bool.and_eq_true]
  exact ⟨Rel.lt v y hy,RelL.lt l s hs⟩
end
structure HB (base:Nat) (H:Heap):Prop where
 le:base≤H.length
 old:∀ (l:Nat) (o:AO),l<base→H[l]? = some o→o.lt base=true
 all:∀ (l:Nat) (o:AO),H[l]? = some o→o.lt H.length=true
theorem mapLt_mono {N M:Nat} (h:N≤M):∀ {m:List (AV×AV)},mapLt N m=true→mapLt M m=true
 | [],_=>rfl
 | (k,v)::r,hm=>by
  simp only [mapLt,Bool.and_eq_true] at *
  exact ⟨zAu h _ hm.1,zAu h _ hm.2.1,mapLt_mono h hm.2.2⟩
theorem envLt_mono {N M:Nat} (h:N≤M):∀ {m:Env},envLt N m=true→envLt M m=true
 | [],_=>rfl
 | (k,v)::r,hm=>by
  simp only [envLt,Bool.and_eq_true] at *
  exact ⟨zAu h _ hm.1,envLt_mono h hm.2⟩
theorem AO.zAu {N M:Nat} (h:N≤M) {o:AO} (ho:o.lt N=true):o.lt M=true:=by
 cases o with
 | box v=>exact Ab.zAu h v ho
 | grow _ xs=>exact ho
 | map _ es=>exact mapLt_mono h ho
 | dmap _ es _=>exact mapLt_mono h ho
 | loop r=>simp only [AO.lt,Bool.and_eq_true,decide_eq_true_eq] at *;exact ⟨envLt_mono h ho.1,by omega⟩
 | dfr=>rfl
 | dead=>rfl
 | iter m _ _=>simp only [AO.lt,decide_eq_true_eq] at *;omega
structure Tr (base:Nat) (c c':Cx):Prop where
 ext:Ext c c'
 un:∀ (l:Nat) (o:AO),c.H[l]? = some o→c.ρ l=none→(∀ sz xs,o≠.grow sz xs)→c'.ρ l=none∧c'.H[l]? = some o
 lt:∀ (l N:Nat) (o o':AO),l<base→c.H[l]? = some o→c'.H[l]? = some o'→l<N→o.lt N=true→o'.lt N=true
theorem Tr.refl (base:Nat) (c:Cx):Tr base c c where
 ext:=Ext.refl c
 un _ _ h h' _:=⟨h',h⟩
 lt _ _ _ _ _ h h' _ hl:=by rw [h] at h';cases h';exact hl
theorem Tr.trans {base:Nat} {a b c:Cx} (h:Tr base a b) (h':Tr base b c):Tr base a c where
 ext:=h.ext.trans h'.ext
 un l o ho hl hg:=by
  obtain ⟨h1,h2⟩:=h.un l o ho hl hg
  exact h'.un l o h2 h1 hg
 lt l N o o' hl ho ho' hN hlt:=by
  obtain ⟨o1,h1,_⟩:=h.ext.kind l o ho
  exact h'.lt l N o1 o' hl h1 ho' hN (h.lt l N o o1 hl ho h1 hN hlt)
def Cx.new (c:Cx) (o:Obj) (a:AO):Cx:=⟨{ c.w with heap:=c.w.heap.push o },fun l=>if l=c.H.length then some c.w.heap.size else c.ρ l,c.H++[a]⟩
theorem Sim.none {P:Program} {B:Nat} {c:Cx} (h:Sim P B c) {l:Nat} (hl:c.H.length≤l):c.ρ l=none:=by
 cases e:c.ρ l with
 | none=>rfl
 | some b=>have:=h.len e;omega
theorem new_owned {c:Cx} {o:Obj} {a:AO} {b:Nat} (hb:b<c.w.heap.size) (ho:¬ c.owned b):¬ (c.new o a).owned b:=by
 rintro ⟨l,hl⟩
 simp only [Cx.new] at hl
 split at hl
 ·cases hl;omega
 ·exact ho ⟨l,hl⟩
theorem new_tr {P:Program} {B base:Nat} {c:Cx} (_h:Sim P B c) (o:Obj) (a:AO):Tr base c (c.new o a) where
 ext:={
  sys:=⟨rfl,rfl,rfl⟩
  size:=by simp [Cx.new]
  kind:=fun l x hx=>⟨x,by simp only [Cx.new];rw [List.getElem?_append_left (List.getElem?_eq_some_iff.1 hx).1];exact hx,Kind.refl x⟩
  grow:=fun l sz xs xs' hx _ _=>by
   have:=(List.getElem?_eq_some_iff.1 hx).1
   simp only [Cx.new];rw [if_neg (by omega)]
  same:=fun l b x hx hl _=>by
   have:=(List.getElem?_eq_some_iff.1 hx).1
   simp only [Cx.new];rw [if_neg (by omega)];exact hl
  kept:=fun b hb ho=>⟨new_owned hb ho,by simp only [Cx.new];rw [Array.getElem?_push_lt hb,Array.getElem?_eq_getElem hb]⟩
  cells:=fun b cs T fr hb=>⟨cs,fr,by
   have hlt:=(Array.getElem?_eq_some_iff.1 hb).1
   simp only [Cx.new];rw [Array.getElem?_push_lt hlt,← Array.getElem?_eq_getElem hlt];exact hb,rfl⟩ }
 un l x hx hl _:=by
  have:=(List.getElem?_eq_some_iff.1 hx).1
  exact ⟨by simp only [Cx.new];rw [if_neg (by omega)];exact hl,by simp only [Cx.new];rw [List.getElem?_append_left this];exact hx⟩
 lt l N x x' _ hx hx' _ hl:=by
  have:=(List.getElem?_eq_some_iff.1 hx).1
  simp only [Cx.new] at hx';rw [List.getElem?_append_left this,hx] at hx';cases hx';exact hl
theorem new_sim {P:Program} {B:Nat} {c:Cx} (h:Sim P B c) (hB:B≤c.w.heap.size) {o:Obj} {a:AO} (ha:RelO P (c.new o a) c.w.heap.size a):Sim P B (c.new o a) where
 obj l b hl:=by
  simp only [Cx.new] at hl
  split at hl
  ·rename_i e;subst e;cases hl
   exact ⟨a,by simp [Cx.new],ha⟩
  ·obtain ⟨x,hx,hr⟩:=h.obj l b hl
   refine ⟨x,((new_tr (base:=0) h o a).ext.kind l x hx).elim fun x' hx'=>?_,hr.ext (new_tr (base:=0) h o a).ext ?_⟩
   ·simp only [Cx.new];rw [List.getElem?_append_left (List.getElem?_eq_some_iff.1 hx).1];exact hx
   ·have hb:=(h.lo l b hl).2
    simp only [Cx.new];rw [Array.getElem?_push_lt hb,Array.getElem?_eq_getElem hb]
 inj l l' b hl hl':=by
  simp only [Cx.new] at hl hl'
  split at hl<;>split at hl'
  ·omega
  ·cases hl;have:=(h.lo l' _ hl').2;omega
  ·cases hl';have:=(h.lo l _ hl).2;omega
  ·exact h.inj l l' b hl hl'
 lo l b hl:=by
  simp only [Cx.new] at hl ⊢
  split at hl
  ·cases hl;simp;exact hB
  ·have:=h.lo l b hl;simp;omega
 glob:=h.glob.ext (new_tr (base:=0) h o a).ext
theorem new_hb {base:Nat} {H:Heap} (h:HB base H) {a:AO} (ha:a.lt H.length=true):HB base (H++[a]) where
 le:=by have:=h.le;simp;omega
 old l o hl ho:=by
  have:=h.le
  rw [List.getElem?_append_left (by omega)] at ho
  exact h.old l o hl ho
 all l o ho:=by
  have hle:H.length≤(H++[a]).length:=by simp
  by_cases hl:l<H.length
  ·rw [List.getElem?_append_left hl] at ho
   exact AO.zAu hle (h.all l o ho)
  ·rw [List.getElem?_append_right (by omega)] at ho
   have:l-H.length=0:=by
    have:=(List.getElem?_eq_some_iff.1 ho).1;simp at this;omega
   rw [this] at ho;simp at ho;subst ho
   exact AO.zAu hle ha
structure Wr (c:Cx) (b:Nat) (w':World):Prop where
 sys:SysEq c.w w'
 size:w'.heap.size=c.w.heap.size
 others:∀ d,d≠b→w'.heap[d]? = c.w.heap[d]?
 cells:∀ cs T fr,c.w.heap[b]? = some (.cells cs T fr)→∃ cs' fr',w'.heap[b]? = some (.cells cs' T fr')∧cs'.size=cs.size
def Cx.wr (c:Cx) (w':World) (l:Nat) (a:AO):Cx:=⟨w',c.ρ,c.H.set l a⟩
theorem wr_get {c:Cx} {w':World} {l:Nat} {a o:AO} (ho:c.H[l]? = some o):(c.wr w' l a).H[l]? = some a:=by
 simp only [Cx.wr];rw [List.getElem?_set_self (List.getElem?_eq_some_iff.1 ho).1]
theorem wr_ext {c:Cx} {w':World} {l b:Nat} {a o:AO} (hl:c.ρ l=some b) (ho:c.H[l]? = some o) (hw:Wr c b w') (hk:Kind o a):Ext c (c.wr w' l a) where
 sys:=hw.sys
 size:=by simp only [Cx.wr];rw [hw.size];exact Nat.le_refl _
 kind l' x hx:=by
  by_cases e:l'=l
  ·subst e;rw [ho] at hx;cases hx;exact ⟨a,wr_get ho,hk⟩
  ·exact ⟨x,by simp only [Cx.wr];rw [List.getElem?_set_ne (fun h=>e h.symm)];exact hx,Kind.refl x⟩
 grow _ _ _ _ _ _ _:=rfl
 same _ _ _ _ h _:=h
 kept d hd hn:=⟨hn,hw.others d (fun e=>hn ⟨l,e ▸ hl⟩)⟩
 cells d cs T fr hd:=by
  by_cases e:d=b
  ·subst e;exact hw.cells cs T fr hd
  ·exact ⟨cs,fr,(hw.others d e).trans hd,rfl⟩
theorem wr_sim {P:Program} {B:Nat} {c:Cx} (h:Sim P B c) {w':World} {l b:Nat} {a o:AO} (hl:c.ρ l=some b) (ho:c.H[l]? = some o) (hw:Wr c b w') (hk:Kind o a)
  (ha:RelO P (c.wr w' l a) b a):Sim P B (c.wr w' l a) where
 obj l' d hd:=by
  by_cases e:l'=l
  ·subst e;rw [show (c.wr w' l' a).ρ l'=c.ρ l' from rfl,hl] at hd;cases hd;exact ⟨a,wr_get ho,ha⟩
  ·obtain ⟨x,hx,hr⟩:=h.obj l' d hd
   have hne:d≠b:=fun e'=>e (h.inj l' l b (e' ▸ hd) hl)
   exact ⟨x,by simp only [Cx.wr];rw [List.getElem?_set_ne (fun h=>e h.symm)];exact hx,hr.ext (wr_ext hl ho hw hk) (hw.others d hne)⟩
 inj:=h.inj
 lo l' d hd:=by have:=h.lo l' d hd;simp only [Cx.wr];rw [hw.size];exact this
 glob:=h.glob.ext (wr_ext hl ho hw hk)
theorem wr_tr {base:Nat} {c:Cx} {w':World} {l b:Nat} {a o:AO} (hl:c.ρ l=some b) (ho:c.H[l]? = some o) (hw:Wr c b w') (hk:Kind o a)
  (hlt:∀ N,l<base→l<N→o.lt N=true→a.lt N=true):Tr base c (c.wr w' l a) where
 ext:=wr_ext hl ho hw hk
 un l' x hx hn _:=by
  have e:l'≠l:=by rintro rfl;rw [hl] at hn;cases hn
  exact ⟨hn,by simp only [Cx.wr];rw [List.getElem?_set_ne (fun h=>e h.symm)];exact hx⟩
 lt l' N x x' hb hx hx' hN hl':=by
  by_cases e:l'=l
  ·subst e;rw [ho] at hx;cases hx;rw [wr_get ho] at hx';cases hx';exact hlt N hb hN hl'
  ·simp only [Cx.wr] at hx';rw [List.getElem?_set_ne (fun h=>e h.symm),hx] at hx';cases hx';exact hl'
theorem set_hb {base:Nat} {H:Heap} (h:HB base H) {l:Nat} {o a:AO} (ho:H[l]? = some o) (ha:l<base→a.lt base=true) (ha':a.lt H.length=true):HB base (H.set l a) where
 le:=by simp;exact h.le
 old l' x hl hx:=by
  by_cases e:l'=l
  ·subst e;rw [List.getElem?_set_self (List.getElem?_eq_some_iff.1 ho).1] at hx;cases hx;exact ha hl
  ·rw [List.getElem?_set_ne (fun h=>e h.symm)] at hx;exact h.old l' x hl hx
 all l' x hx:=by
  rw [List.length_set]
  by_cases e:l'=l
  ·subst e;rw [List.getElem?_set_self (List.getElem?_eq_some_iff.1 ho).1] at hx;cases hx;exact ha'
  ·rw [List.getElem?_set_ne (fun h=>e h.symm)] at hx;exact h.all l' x hx
end Go.Ab
