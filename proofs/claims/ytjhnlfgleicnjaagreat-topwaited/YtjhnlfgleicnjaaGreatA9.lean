/- Each operation of the abstract evaluator is one of the model: slices that are made and that grow. -/
import Derived.Test.YtjhnlfgleicnjaaGreatA8
namespace Go.Ab
set_option linter.unusedSimpArgs false
set_option linter.unusedVariables false
section
variable {C:Cfg} {P:Program} {B base:Nat} {F:FI} {c:Cx} {e:Env} {a:Act}
theorem heap_tr {w':World} (h:w'.heap=c.w.heap) (hy:SysEq c.w w'):Tr base c ⟨w',c.ρ,c.H⟩ where
 ext:={
  sys:=hy
  size:=by simp [h]
  kind:=fun l o ho=>⟨o,ho,Kind.refl o⟩
  grow:=fun _ _ _ _ _ _ _=>rfl
  same:=fun _ _ _ _ hl _=>hl
  kept:=fun b _ ho=>⟨ho,by simp [h]⟩
  cells:=fun b cs T fr hb=>⟨cs,fr,by simpa [h] using hb,rfl⟩ }
 un _ _ ho hl _:=⟨hl,ho⟩
 lt _ _ _ _ _ ho ho' _ hl:=by rw [ho] at ho';cases ho';exact hl
theorem heap_sim {w':World} (hs:Sim P B c) (h:w'.heap=c.w.heap) (hy:SysEq c.w w'):Sim P B ⟨w',c.ρ,c.H⟩ where
 obj l b hl:=by
  obtain ⟨o,ho,hr⟩:=hs.obj l b hl
  exact ⟨o,ho,hr.ext (heap_tr (base:=0) h hy).ext (by simp [h])⟩
 inj:=hs.inj
 lo l b hl:=by have:=hs.lo l b hl;simpa [h] using this
 glob:=hs.glob.ext (heap_tr (base:=0) h hy).ext
def Cx.add (c:Cx) (o:Obj):Cx:=⟨{ c.w with heap:=c.w.heap.push o },c.ρ,c.H⟩
theorem add_tr (o:Obj):Tr base c (c.add o) where
 ext:={
  sys:=⟨rfl,rfl,rfl⟩
  size:=by simp [Cx.add]
  kind:=fun l o ho=>⟨o,ho,Kind.refl o⟩
  grow:=fun _ _ _ _ _ _ _=>rfl
  same:=fun _ _ _ _ hl _=>hl
  kept:=fun b hb ho=>⟨ho,by simp only [Cx.add];rw [Array.getElem?_push_lt hb,Array.getElem?_eq_getElem hb]⟩
  cells:=fun b cs T fr hb=>⟨cs,fr,by
   have hlt:=(Array.getElem?_eq_some_iff.1 hb).1
   simp only [Cx.add];rw [Array.getElem?_push_lt hlt,← Array.getElem?_eq_getElem hlt];exact hb,rfl⟩ }
 un _ _ ho hl _:=⟨hl,ho⟩
 lt _ _ _ _ _ ho ho' _ hl:=by simp only [Cx.add] at ho';rw [ho] at ho';cases ho';exact hl
theorem add_sim (hs:Sim P B c) (o:Obj):Sim P B (c.add o) where
 obj l b hl:=by
  obtain ⟨x,hx,hr⟩:=hs.obj l b hl
  have hb:=(hs.lo l b hl).2
  exact ⟨x,hx,hr.ext (add_tr (base:=0) o).ext (by simp only [Cx.add];rw [Array.getElem?_push_lt hb,Array.getElem?_eq_getElem hb])⟩
 inj:=hs.inj
 lo l b hl:=by have:=hs.lo l b hl;simp only [Cx.add,Array.size_push];omega
 glob:=hs.glob.ext (add_tr (base:=0) o).ext
def Cx.move (c:Cx) (o:Obj) (l:Nat) (x:AO):Cx:=⟨{ c.w with heap:=c.w.heap.push o },fun k=>if k=l then some c.w.heap.size else c.ρ k,c.H.set l x⟩
theorem move_tr {o:Obj} {l sz:Nat} {xs ys:List AV} (hl:c.H[l]? = some (.grow sz xs)) (hn:ys≠[]) (hp:ltL 0 (xs++ys)=true):Tr base c (c.move o l (.grow sz (xs++ys))) where
 ext:={
  sys:=⟨rfl,rfl,rfl⟩
  size:=by simp [Cx.move]
  kind:=fun k x hx=>by
   by_cases e:k=l
   ·subst e;rw [hl] at hx;cases hx
    exact ⟨.grow sz (xs++ys),by simp only [Cx.move];rw [List.getElem?_set_self (List.getElem?_eq_some_iff.1 hl).1],show Kind (.grow sz xs) (.grow sz (xs++ys)) from ⟨rfl,by simp⟩⟩
   ·exact ⟨x,by simp only [Cx.move];rw [List.getElem?_set_ne (fun h=>e h.symm)];exact hx,Kind.refl x⟩
  grow:=fun k s zs zs' hz hz' he=>by
   have e:k≠l:=by
    rintro rfl
    rw [hl] at hz;cases hz
    simp only [Cx.move] at hz'
    rw [List.getElem?_set_self (List.getElem?_eq_some_iff.1 hl).1] at hz';cases hz'
    simp at he;exact hn he
   simp only [Cx.move,if_neg e]
  same:=fun k b x hx hk hg=>by
   have e:k≠l:=by rintro rfl;rw [hl] at hx;cases hx;exact hg _ _ rfl
   simp only [Cx.move,if_neg e];exact hk
  kept:=fun b hb ho=>⟨by
   rintro ⟨k,hk⟩
   simp only [Cx.move] at hk
   split at hk
   ·cases hk;omega
   ·exact ho ⟨k,hk⟩,by simp only [Cx.move];rw [Array.getElem?_push_lt hb,Array.getElem?_eq_getElem hb]⟩
  cells:=fun b cs T fr hb=>⟨cs,fr,by
   have hlt:=(Array.getElem?_eq_some_iff.1 hb).1
   simp only [Cx.move];rw [Array.getElem?_push_lt hlt,← Array.getElem?_eq_getElem hlt];exact hb,rfl⟩ }
 un k x hx hk hg:=by
  have e:k≠l:=by rintro rfl;rw [hl] at hx;cases hx;exact hg _ _ rfl
  exact ⟨by simp only [Cx.move,if_neg e];exact hk,by simp only [Cx.move];rw [List.getElem?_set_ne (fun h=>e h.symm)];exact hx⟩
 lt k N x x' hb hx hx' hN hlt:=by
  by_cases e:k=l
  ·subst e
   rw [hl] at hx;cases hx
   simp only [Cx.move] at hx'
   rw [List.getElem?_set_self (List.getElem?_eq_some_iff.1 hl).1] at hx';cases hx'
   exact hp
  ·simp only [Cx.move] at hx';rw [List.getElem?_set_ne (fun h=>e h.symm),hx] at hx';cases hx';exact hlt
theorem move_sim (hs:Sim P B c) (hB:B≤c.w.heap.size) {o:Obj} {l sz:Nat} {xs ys:List AV} (hl:c.H[l]? = some (.grow sz xs)) (hn:ys≠[]) (hp:ltL 0 (xs++ys)=true)
  (hr:RelO P (c.move o l (.grow sz (xs++ys))) c.w.heap.size (.grow sz (xs++ys))):Sim P B (c.move o l (.grow sz (xs++ys))) where
 obj k b hk:=by
  by_cases e:k=l
  ·subst e
   simp only [Cx.move,if_true,Option.some.injEq] at hk;subst hk
   exact ⟨_,by simp only [Cx.move];rw [List.getElem?_set_self (List.getElem?_eq_some_iff.1 hl).1],hr⟩
  ·simp only [Cx.move,if_neg e] at hk
   obtain ⟨x,hx,hr'⟩:=hs.obj k b hk
   have hb:=(hs.lo k b hk).2
   exact ⟨x,by simp only [Cx.move];rw [List.getElem?_set_ne (fun h=>e h.symm)];exact hx,hr'.ext (move_tr (base:=0) hl hn hp).ext (by simp only [Cx.move];rw [Array.getElem?_push_lt hb,Array.getElem?_eq_getElem hb])⟩
 inj k k' b hk hk':=by
  simp only [Cx.move] at hk hk'
  split at hk<;>split at hk'
  ·omega
  ·cases hk;have:=(hs.lo k' _ hk').2;omega
  ·cases hk';have:=(hs.lo k _ hk).2;omega
  ·exact hs.inj k k' b hk hk'
 lo k b hk:=by
  simp only [Cx.move,Array.size_push] at hk ⊢
  split at hk
  ·cases hk;omega
  ·have:=hs.lo k b hk;omega
 glob:=hs.glob.ext (move_tr (base:=0) hl hn hp).ext
def Els (c:Cx) (es:List AV) (ad:Option Addr):Prop:=es=[]∨∃ b o sz ys,ad=some ⟨b,o,none⟩∧RelL c es ys∧(∀ y∈ys,y.cells.size=sz)∧Lies c.w b o (flat ys)
theorem elems_rel (hs:Sim P B c) {x:AV} {es:List AV} {X:Value} (h:elems c.H x=some es) (r:Rel c x X):∃ ad cap,X=.slice ad es.length cap∧(∀ y∈es,known y=true)∧ltL 0 es=true∧Els c es ad:=by
 unfold elems at h
 split at h
 ·cases h
  simp only [Rel] at r
  obtain ⟨ad,cap,rfl,_,hp,r⟩:=r
  refine ⟨ad,cap,rfl,hp.2,hp.1,r.imp id ?_⟩
  rintro ⟨b,o,sz,ys,h1,_,_,h2,h3,h4⟩
  exact ⟨b,o,sz,ys,h1,h2,h3,h4⟩
 ·rename_i l n
  split at h
  ·rename_i sz xs hl
   split at h
   ·rename_i hn
    cases h
    simp only [Rel] at r
    obtain ⟨ad,cap,sz',xs',rfl,hx,_,r⟩:=r
    rw [hl] at hx;cases hx
    rcases r hn with ⟨h1,h2,h3⟩ | ⟨b,cells,T,fr,h1,h2,h3,h4,h5⟩
    ·have:=List.eq_nil_of_length_eq_zero (hn.trans h2)
     subst this
     exact ⟨ad,cap,by rw [← hn],by simp,rfl,.inl rfl⟩
    ·obtain ⟨o,ho,hr⟩:=hs.obj l b h1
     rw [hl] at ho;cases ho
     obtain ⟨ys,rest,T',g1,g2,g3,g4,g5⟩:=hr
     refine ⟨ad,cap,by rw [← hn],g5,g4,.inr ⟨b,0,sz,ys,h2,g2,g3,fun k hk=>?_⟩⟩
     rw [Nat.zero_add,cell_of_cells g1,List.getElem?_toArray,List.getElem?_append_left hk]
   ·cases h
  ·cases h
 ·cases h
theorem zB6 {sz:Nat} {q:Bool}:∀ {es:List AV},zB9 sz q es=true→∀ v∈es,v.cells.length=sz∧known v=true
 | x::es,h,v,hv=>by
  simp only [zB9,Bool.and_eq_true] at h
  rcases List.mem_cons.1 hv with rfl | hv
  ·have:=h.1
   cases v<;>simp [elemOk,AV.scalar] at this<;>simp [AV.cells,known,zAc,AV.scalar]<;>(try omega)
   exact ⟨this.2.1,this.2.2⟩
  ·exact zB6 h.2 v hv
theorem els_size {es:List AV} {ys:List Value} {sz:Nat} (hr:RelL c es ys) (hk:∀ v∈es,v.cells.length=sz∧known v=true):∀ y∈ys,y.cells.size=sz:=by
 intro y hy
 obtain ⟨k,hk'⟩:=List.getElem?_of_mem hy
 have hlt:k<es.length:=by rw [hr.length];exact (List.getElem?_eq_some_iff.1 hk').1
 obtain ⟨z,hz,hrz⟩:=hr.get (List.getElem?_eq_getElem hlt)
 rw [hk'] at hz;cases hz
 have:=hk _ (List.getElem_mem hlt)
 have h2:=(zBe this.2 hrz).length
 simp at h2;omega
theorem cell_of_heap {w w':World} (h:w'.heap=w.heap) (ad:Addr):w'.cell? ad=w.cell? ad:=by simp [World.cell?,h]
theorem run_firstCells {es:List AV} {ad:Option Addr} {cap sz:Nat} (he:Els c es ad) (hk:∀ v∈es,v.cells.length=sz∧known v=true) :
  ∃ ys,RelL c es ys∧(∀ y∈ys,y.cells.size=sz)∧(flat ys).length=es.length*sz∧∀ w',w'.heap=c.w.heap→(Builtin.firstCells sz es.length (.slice ad es.length cap)).run P w'=.ok (flat ys).toArray w':=by
 rcases he with rfl | ⟨b,o,s,ys,rfl,h1,h2,h3⟩
 ·refine ⟨[],by simp [RelL],by simp,by simp [flat],fun w' _=>?_⟩
  cases ad with
  | none=>simp [Builtin.firstCells,flat]
  | some ad=>simp [Builtin.firstCells,loadCells,loadCellsFrom,flat]
 ·have hsz:=els_size h1 hk
  have hlen:(flat ys).length=es.length*sz:=by rw [zAr hsz,h1.length]
  refine ⟨ys,h1,hsz,hlen,fun w' hw=>?_⟩
  exact run_firstCells_some w' sz es.length ⟨b,o,none⟩ es.length cap (flat ys) hlen (fun j v hj=>by
   rw [add_addr,cell_of_heap hw,h3 j (List.getElem?_eq_some_iff.1 hj).1];exact hj)
theorem run_append_gen {t e ty:TypeId} {te:Ty} {z:Value} (ht:P.underlying t=some (.slice e)) (he:tyOf P e=some te) (hz:te.zero=some z) {w:World} {base ad:Option Addr} {n cap m cap2:Nat} {old new:Array Value}
  (ho:∀ w':World,w'.heap=w.heap→(Builtin.firstCells te.size n (.slice base n cap)).run P w'=.ok old w') (hn:∀ w':World,w'.heap=w.heap→(Builtin.firstCells te.size m (.slice ad m cap2)).run P w'=.ok new w')
  (hb:n+m≤1048576) (hby:te.bytes≤1048576) :
  (Builtin.append_ #[t,t] ty #[.slice base n cap,.slice ad m cap2]).run P w =
   if n+m≤cap then (do (match base with | some a=>storeCells (a.add (n*te.size)) new.toList | none=>pure ());pure (Value.slice base (n+m) cap):Sem Value).run P w
   else .ok (.slice (some ⟨w.heap.size,0,none⟩) (n+m) (grownCap w (n+m) cap e)) ({ w with drawn:=w.drawn+1,heap:=w.heap.push (.cells (old++new++Builtin.zeroCells z.cells (grownCap w (n+m) cap e-(n+m))) e) }):=by
 have hs:=fun w'=>zB1 (P:=P) he w'
 obtain ⟨i,u,hi,hu,hd,hsz,hbi,hzi⟩:=zBq he
 have hn0:=hn w rfl
 have hzero:=fun w'=>run_zero (P:=P) he hz w'
 have hti:∀ w',(typeInfo e).run P w'=.ok i w':=fun w'=>by simp [typeInfo,hi]
 split
 ·rename_i hle
  simp only [Builtin.append_,Sem.run_bind,zA9 ht,Result.andThen_ok,hs,Sem.run_pure,List.getElem?_toArray,List.getElem?_cons_zero,List.getElem?_cons_succ,Builtin.lenOf,Bool.false_eq_true,if_false,Sem.run_ite,hle,if_true,Bool.not_false,hn0]
  cases base<;>simp
 ·rename_i hle
  have h63:¬ ((n+m:Nat):Int)>IntKind.i64.max:=by
   have:IntKind.i64.max=9223372036854775807:=by decide
   rw [this];omega
  have h48:¬ (Builtin.nextslicecap (n+m) cap*i.bytes>2^48):=by
   have:=growslice_fits (need:=n+m) (old:=cap) (bytes:=i.bytes) (by omega) (Nat.le_trans (Nat.mul_le_mul hb (by omega:i.bytes≤1048576)) (by decide))
   have h2:(2:Nat)^48=281474976710656:=by decide
   omega
  simp only [Builtin.append_,Sem.run_bind,zA9 ht,Result.andThen_ok,hs,Sem.run_pure,List.getElem?_toArray,List.getElem?_cons_zero,List.getElem?_cons_succ,Builtin.lenOf,Bool.false_eq_true,if_false,Sem.run_ite,hle,Bool.not_false,if_true,hti]
  simp only [h63,false_and,if_false,h48,run_choose,Question.forced,Bool.false_eq_true,Result.andThen_ok,run_askRoom]
  have ho2:=ho { heap:=w.heap,tape:=w.tape,drawn:=w.drawn+1,os:=w.os,output:=w.output } rfl
  have hn2:=hn { heap:=w.heap,tape:=w.tape,drawn:=w.drawn+1,os:=w.os,output:=w.output } rfl
  simp only [ho2,hn2,Result.andThen_ok,hzero,newRow,Sem.run_bind,run_newObj,Sem.run_pure]
  rfl
def AppOk (P:Program) (B base:Nat) (c:Cx) (r:Result Value) (v:AV) (H':Heap):Prop :=
 ∃ V w' ρ',r=.ok V w'∧Rel ⟨w',ρ',H'⟩ v V∧Sim P B ⟨w',ρ',H'⟩∧Tr base c ⟨w',ρ',H'⟩∧HB base H'
theorem grown_ge (w:World) (need old:Nat) (e:TypeId):need≤grownCap w need old e:=by
 simp only [grownCap,Question.cut];omega
theorem ltL_zero_append {l m:List AV} (h:ltL 0 l=true) (h':ltL 0 m=true):ltL 0 (l++m)=true:=by
 rw [ltL_append,h,h'];rfl
theorem nil_step (hs:Sim P B c) (hb:HB base c.H) (sz:Nat):Sim P B ⟨c.w,c.ρ,c.H++[.grow sz []]⟩∧Tr base c ⟨c.w,c.ρ,c.H++[.grow sz []]⟩∧HB base (c.H++[.grow sz []]):=by
 have get:∀ {l:Nat} {o:AO},c.H[l]? = some o→(c.H++[AO.grow sz []])[l]? = some o:=fun {l o} ho=>by
  rw [List.getElem?_append_left (List.getElem?_eq_some_iff.1 ho).1];exact ho
 have tr:Tr base c ⟨c.w,c.ρ,c.H++[.grow sz []]⟩:={
  ext:={
   sys:=⟨rfl,rfl,rfl⟩
   size:=Nat.le_refl _
   kind:=fun l o ho=>⟨o,get ho,Kind.refl o⟩
   grow:=fun _ _ _ _ _ _ _=>rfl
   same:=fun _ _ _ _ h _=>h
   kept:=fun _ _ h=>⟨h,rfl⟩
   cells:=fun _ cs _ fr h=>⟨cs,fr,h,rfl⟩ }
  un:=fun l o ho hl _=>⟨hl,get ho⟩
  lt:=fun l N o o' _ ho ho' _ hlt=>by
   have:=get ho
   rw [show (c.H++[AO.grow sz []])[l]? = some o' from ho'] at this;cases this;exact hlt }
 refine ⟨⟨fun l b hl=>?_,hs.inj,hs.lo,hs.glob.ext tr.ext⟩,tr,new_hb hb rfl⟩
 ·obtain ⟨o,ho,hr⟩:=hs.obj l b hl
  exact ⟨o,get ho,hr.ext tr.ext rfl⟩
theorem nil_rel (hs:Sim P B c) (sz:Nat) (ad:Option Addr):Rel ⟨c.w,c.ρ,c.H++[.grow sz []]⟩ (.gsl c.H.length 0) (.slice ad 0 0):=by
 simp only [Rel]
 exact ⟨ad,0,sz,[],rfl,by simp,by simp,fun _=>.inl ⟨hs.none (Nat.le_refl _),by simp⟩⟩
theorem new_grow (hs:Sim P B c) (hb:HB base c.H) (hB:B≤c.w.heap.size) {es:List AV} {ys:List Value} {sz:Nat} {rest:List Value} {T:TypeId} (hr:RelL c es ys) (hsz:∀ y∈ys,y.cells.size=sz) (hp:ltL 0 es=true) (hk:∀ x∈es,known x=true)
  {w':World} {arr:Array Value} (hw:w'.heap=c.w.heap.push (.cells arr T)) (hy:SysEq c.w w') (ha:arr.toList=flat ys++rest) {n cap:Nat} (hn:n=es.length) (hcap:n≤cap) (hroom:cap*sz≤arr.size) :
  ∃ ρ',Rel ⟨w',ρ',c.H++[.grow sz es]⟩ (.gsl c.H.length n) (.slice (some ⟨c.w.heap.size,0,none⟩) n cap)∧Sim P B ⟨w',ρ',c.H++[.grow sz es]⟩∧Tr base c ⟨w',ρ',c.H++[.grow sz es]⟩∧HB base (c.H++[.grow sz es]):=by
 obtain ⟨heap,tape,drawn,os,out⟩:=w'
 simp only at hw;subst hw
 obtain rfl:arr=(flat ys++rest).toArray:=Array.ext' (by simpa using ha)
 let c1:Cx:=⟨⟨c.w.heap,tape,drawn,os,out⟩,c.ρ,c.H⟩
 have t1:Tr base c c1:=heap_tr rfl hy
 have s1:Sim P B c1:=heap_sim hs rfl hy
 refine ⟨(c1.new (.cells (flat ys++rest).toArray T) (.grow sz es)).ρ,?_⟩
 show Rel (c1.new (.cells (flat ys++rest).toArray T) (.grow sz es)) _ _∧Sim P B (c1.new (.cells (flat ys++rest).toArray T) (.grow sz es))∧Tr base c (c1.new (.cells (flat ys++rest).toArray T) (.grow sz es))∧_
 have t2:Tr base c1 (c1.new (.cells (flat ys++rest).toArray T) (.grow sz es)):=new_tr s1 _ _
 have hget:(c1.new (.cells (flat ys++rest).toArray T) (.grow sz es)).w.heap[c.w.heap.size]? = some (.cells (flat ys++rest).toArray T (0,0)):=by simp [Cx.new,c1]
 refine ⟨?_,new_sim s1 hB ⟨ys,rest,T,hget,RelL.ext (t1.trans t2).ext _ _ hr,hsz,hp,hk⟩,t1.trans t2,new_hb hb hp⟩
 simp only [Rel]
 exact ⟨_,cap,sz,es,rfl,by simp [Cx.new,c1],⟨by omega,hcap,.inr ⟨_,rfl⟩⟩,fun _=>.inr ⟨c.w.heap.size,_,T,(0,0),by simp [Cx.new,c1],rfl,hcap,hget,by simpa using hroom⟩⟩
theorem move_grow (hs:Sim P B c) (hb:HB base c.H) (hB:B≤c.w.heap.size) {l:Nat} {xs es:List AV} {ys:List Value} {sz:Nat} {rest:List Value} {T:TypeId} (hl:c.H[l]? = some (.grow sz xs)) (hne:es≠[]) (hr:RelL c (xs++es) ys) (hsz:∀ y∈ys,y.cells.size=sz) (hp:ltL 0 (xs++es)=true) (hk:∀ x∈xs++es,known x=true)
  {w':World} {arr:Array Value} (hw:w'.heap=c.w.heap.push (.cells arr T)) (hy:SysEq c.w w') (ha:arr.toList=flat ys++rest) {n cap:Nat} (hn:n=(xs++es).length) (hcap:n≤cap) (hroom:cap*sz≤arr.size) :
  ∃ ρ',Rel ⟨w',ρ',c.H.set l (.grow sz (xs++es))⟩ (.gsl l n) (.slice (some ⟨c.w.heap.size,0,none⟩) n cap)∧Sim P B ⟨w',ρ',c.H.set l (.grow sz (xs++es))⟩∧Tr base c ⟨w',ρ',c.H.set l (.grow sz (xs++es))⟩∧HB base (c.H.set l (.grow sz (xs++es))):=by
 obtain ⟨heap,tape,drawn,os,out⟩:=w'
 simp only at hw;subst hw
 obtain rfl:arr=(flat ys++rest).toArray:=Array.ext' (by simpa using ha)
 let c1:Cx:=⟨⟨c.w.heap,tape,drawn,os,out⟩,c.ρ,c.H⟩
 have t1:Tr base c c1:=heap_tr rfl hy
 have s1:Sim P B c1:=heap_sim hs rfl hy
 refine ⟨(c1.move (.cells (flat ys++rest).toArray T) l (.grow sz (xs++es))).ρ,?_⟩
 show Rel (c1.move (.cells (flat ys++rest).toArray T) l (.grow sz (xs++es))) _ _∧Sim P B (c1.move (.cells (flat ys++rest).toArray T) l (.grow sz (xs++es)))∧Tr base c (c1.move (.cells (flat ys++rest).toArray T) l (.grow sz (xs++es)))∧_
 have t2:Tr base c1 (c1.move (.cells (flat ys++rest).toArray T) l (.grow sz (xs++es))):=move_tr hl hne hp
 have hget:(c1.move (.cells (flat ys++rest).toArray T) l (.grow sz (xs++es))).w.heap[c.w.heap.size]? = some (.cells (flat ys++rest).toArray T (0,0)):=by simp [Cx.move,c1]
 have hset:(c1.move (.cells (flat ys++rest).toArray T) l (.grow sz (xs++es))).H[l]? = some (.grow sz (xs++es)):=by simp only [Cx.move,c1];rw [List.getElem?_set_self (List.getElem?_eq_some_iff.1 hl).1]
 refine ⟨?_,move_sim s1 hB hl hne hp ⟨ys,rest,T,hget,RelL.ext (t1.trans t2).ext _ _ hr,hsz,hp,hk⟩,t1.trans t2,set_hb hb hl (fun _=>hp) hp⟩
 simp only [Rel]
 exact ⟨_,cap,sz,xs++es,rfl,hset,⟨by omega,hcap,.inr ⟨_,rfl⟩⟩,fun _=>.inr ⟨c.w.heap.size,_,T,(0,0),by simp [Cx.move,c1],rfl,hcap,hget,by simpa using hroom⟩⟩
theorem size_zero (z:Array Value) (n:Nat):(Builtin.zeroCells z n).size=n*z.size:=by simp [Builtin.zeroCells]
theorem addElem_ok (hs:Sim P B c) (hb:HB base c.H) (hB:B≤c.w.heap.size) {t e ty:TypeId} {te:Ty} (ht:P.underlying t=some (.slice e)) (he:tyOf P e=some te) (hz:te.zeroOk=true) (hby:te.bytes≤maxLenA)
  {x y v:AV} {X Y:Value} {ys:List AV} {H':Heap} (hy:elems c.H y=some ys) (rx:Rel c x X) (ry:Rel c y Y) (h:zBo c.H te.size te.agg x ys=some (v,H')) :
  AppOk P B base c ((Builtin.append_ #[t,t] ty #[X,Y]).run P c.w) v H':=by
 obtain ⟨z,hz0,_,_,hzs,_⟩:=zero_rel hz
 obtain ⟨ad,cap2,rfl,hyk,hyp,hye⟩:=elems_rel hs hy ry
 unfold zBo at h
 split at h
 ·rename_i es
  split at h
  ·rename_i hc
   simp only [Bool.and_eq_true,decide_eq_true_eq] at hc
   obtain ⟨c1,c2,c3,c4,c5⟩:=hc
   have rx':=rx
   simp only [Rel] at rx'
   obtain ⟨ad',cap,rfl,hfull,hp,_⟩:=rx'
   have hcap:=hfull.1 trivial
   subst hcap
   obtain ⟨_,_,he',hxk,hxp,hxe⟩:=elems_rel hs (x:=.sl true es) rfl rx
   simp only [Value.slice.injEq] at he'
   obtain ⟨rfl,_,rfl⟩:=he'
   obtain ⟨OLD,o1,o2,o3,o4⟩:=run_firstCells (P:=P) (cap:=es.length) (sz:=te.size) hxe (zB6 c2)
   obtain ⟨NEW,n1,n2,n3,n4⟩:=run_firstCells (P:=P) (cap:=cap2) (sz:=te.size) hye (zB6 c1)
   have hrun:=run_append_gen (ty:=ty) ht he hz0 (w:=c.w) o4 n4 (by simpa [maxLenA] using c5) hby
   by_cases hle:es.length+ys.length≤es.length
   ·have hys:ys=[]:=List.length_eq_zero_iff.1 (by omega)
    subst hys
    rw [if_pos hle] at hrun
    have hNEW:flat NEW=[]:=List.length_eq_zero_iff.1 (by simpa using n3)
    have hrun':(Builtin.append_ #[t,t] ty #[Value.slice ad' es.length es.length,Value.slice ad ([]:List AV).length cap2]).run P c.w=.ok (.slice ad' (es.length+([]:List AV).length) es.length) c.w:=by
     rw [hrun,hNEW]
     cases ad'<;>simp [storeCells]
    split at h
    ·rename_i hemp
     simp only [List.isEmpty_nil,Bool.not_true,Bool.or_false,List.isEmpty_iff] at hemp
     subst hemp
     simp only [List.append_nil,List.length_nil,Nat.add_zero,Option.some.injEq,Prod.mk.injEq] at h
     obtain ⟨rfl,rfl⟩:=h
     obtain ⟨g1,g2,g3⟩:=nil_step hs hb te.size
     exact ⟨_,c.w,c.ρ,hrun',nil_rel hs te.size ad',g1,g2,g3⟩
    ·simp only [Option.some.injEq,Prod.mk.injEq] at h
     obtain ⟨rfl,rfl⟩:=h
     exact ⟨_,c.w,c.ρ,by simpa using hrun',rx,hs,Tr.refl _ _,hb⟩
   ·rw [if_neg hle] at hrun
    have hne:(es.isEmpty||!ys.isEmpty)=true:=by
     cases ys with
     | nil=>simp at hle
     | cons _ _=>simp
    rw [if_pos hne] at h
    simp only [Option.some.injEq,Prod.mk.injEq] at h
    obtain ⟨rfl,rfl⟩:=h
    have hge:=grown_ge c.w (es.length+ys.length) es.length e
    obtain ⟨ρ',g1,g2,g3,g4⟩:=new_grow (es:=es++ys) (ys:=OLD++NEW) (sz:=te.size) (T:=e)
     (rest:=(Builtin.zeroCells z.cells (grownCap c.w (es.length+ys.length) es.length e-(es.length+ys.length))).toList) hs hb hB (o1.append n1)
     (fun y hy=>(List.mem_append.1 hy).elim (o2 y) (n2 y)) (ltL_zero_append c4 c3) (fun x hx=>(List.mem_append.1 hx).elim (hxk x) (hyk x))
     (w':={ c.w with drawn:=c.w.drawn+1,heap:=c.w.heap.push (.cells ((flat OLD).toArray++(flat NEW).toArray++Builtin.zeroCells z.cells (grownCap c.w (es.length+ys.length) es.length e-(es.length+ys.length))) e) })
     rfl ⟨rfl,rfl,rfl⟩ (by simp [zB8]) (n:=es.length+ys.length) (cap:=grownCap c.w (es.length+ys.length) es.length e) (by simp) hge (by
      simp only [Array.size_append,List.size_toArray,o3,n3,size_zero,hzs,← Nat.add_mul]
      exact Nat.mul_le_mul_right _ (by omega))
    exact ⟨_,_,ρ',hrun,g1,g2,g3,g4⟩
  ·cases h
 ·rename_i l n
  split at h
  ·rename_i sz' xs hl
   split at h
   ·rename_i hc
    simp only [Bool.and_eq_true,decide_eq_true_eq] at hc
    obtain ⟨c1,c3,rfl,hn,c5⟩:=hc
    cases h
    have hel:elems c.H (.gsl l n)=some xs:=by simp [elems,hl,hn]
    obtain ⟨ad',cap,rfl,hxk,hxp,hxe⟩:=elems_rel hs hel rx
    subst hn
    have rx':=rx
    simp only [Rel] at rx'
    obtain ⟨_,_,sz,xs',heq,hx1,hx2,hx3⟩:=rx'
    simp only [Value.slice.injEq] at heq
    obtain ⟨rfl,_,rfl⟩:=heq
    rw [hl] at hx1;cases hx1
    have hx3:=hx3 rfl
    have hdisj:(∀ v∈xs,v.cells.length=te.size∧known v=true):=by
     rcases hx3 with ⟨h1,h2,_⟩ | ⟨b,_,_,_,h1,_⟩
     ·have:=List.eq_nil_of_length_eq_zero h2;subst this;simp
     ·obtain ⟨o,ho,hr⟩:=hs.obj l b h1
      rw [hl] at ho;cases ho
      obtain ⟨ys',_,_,_,r2,r3,_,r5⟩:=hr
      intro v hv
      obtain ⟨k,hk⟩:=List.getElem?_of_mem hv
      obtain ⟨y',hy',hr'⟩:=r2.get hk
      have:=(zBe (r5 v hv) hr').length
      have h9:=r3 y' (List.mem_of_getElem? hy')
      simp only [Array.length_toList] at this
      exact ⟨by omega,r5 v hv⟩
    obtain ⟨OLD,o1,o2,o3,o4⟩:=run_firstCells (P:=P) (cap:=cap) (sz:=te.size) hxe hdisj
    obtain ⟨NEW,n1,n2,n3,n4⟩:=run_firstCells (P:=P) (cap:=cap2) (sz:=te.size) hye (zB6 c1)
    have hrun:=run_append_gen (ty:=ty) ht he hz0 (w:=c.w) o4 n4 (by simpa [maxLenA] using c5) hby
    have hpure:ltL 0 (xs++ys)=true:=ltL_zero_append hxp c3
    have hknown:∀ x∈xs++ys,known x=true:=fun x hx=>(List.mem_append.1 hx).elim (hxk x) (hyk x)
    by_cases hle:xs.length+ys.length≤cap
    ·rw [if_pos hle] at hrun
     rcases hx3 with ⟨h1,h2,h3⟩ | ⟨b,cells,T,fr,h1,h2,h3,h4,h5⟩
     ·have hxs:xs=[]:=List.length_eq_zero_iff.1 h2
      have hys:ys=[]:=List.length_eq_zero_iff.1 (by omega)
      subst hxs;subst hys;subst h3
      have hNEW:flat NEW=[]:=List.length_eq_zero_iff.1 (by simpa using n3)
      have hset:c.H.set l (.grow te.size ([]++[]))=c.H:=by
       obtain ⟨hlt,hg⟩:=List.getElem?_eq_some_iff.1 hl
       rw [List.append_nil,← hg,List.set_getElem_self]
      rw [hset]
      refine ⟨.slice ad' 0 0,c.w,c.ρ,?_,rx,hs,Tr.refl _ _,hb⟩
      rw [hrun,hNEW]
      cases ad'<;>simp [storeCells]
     ·subst h2
      obtain ⟨o,ho,hr⟩:=hs.obj l b h1
      rw [hl] at ho;cases ho
      obtain ⟨ys',rest,T',r1,r2,r3,r4,r5⟩:=hr
      rw [h4] at r1
      simp only [Option.some.injEq,Obj.cells.injEq] at r1
      obtain ⟨rfl,rfl,rfl⟩:=r1
      have hfl:=zAr r3
      rw [← r2.length] at hfl
      have hrl:ys.length*te.size≤rest.length:=by
       have h6:=Nat.mul_le_mul_right te.size hle
       simp only [List.size_toArray,List.length_append,hfl] at h5
       rw [Nat.add_mul] at h6;omega
      have hone:∀ v∈flat NEW,v.oneCell'=true:=by
       intro v hv
       simp only [flat,List.mem_flatMap] at hv
       obtain ⟨y',hy',hv⟩:=hv
       obtain ⟨k,hk⟩:=List.getElem?_of_mem hy'
       have hlt:k<ys.length:=by rw [n1.length];exact (List.getElem?_eq_some_iff.1 hk).1
       obtain ⟨z',hz',hrz⟩:=n1.get (List.getElem?_eq_getElem hlt)
       rw [hk] at hz';cases hz'
       have hkn:=(zB6 c1 _ (List.getElem_mem hlt)).2
       exact allScalar_one hkn (zBe hkn hrz) v hv
      obtain ⟨w',s1,s2,s3,s4⟩:=run_storeCells (P:=P) b (xs.length*te.size) T (flat NEW) 0 c.w (flat ys'++rest) h4 (by simp [hfl,n3];omega) hone
      have hlist:(flat ys'++rest).take (xs.length*te.size+0)++flat NEW++(flat ys'++rest).drop (xs.length*te.size+0+(flat NEW).length)=flat (ys'++NEW)++rest.drop (flat NEW).length:=by
       rw [Nat.add_zero,← hfl,List.take_left',List.drop_append,zB8]<;>first | rfl | skip
       rw [List.drop_of_length_le (by omega)]
       simp
      rw [hlist] at s4
      have hW:Wr c b w':=store_rel (l:=flat ys'++rest) (l':=flat (ys'++NEW)++rest.drop (flat NEW).length) rfl h4 s2 s3 s4 (by simp [zB8,n3];omega)
      have hk:Kind (.grow te.size xs) (.grow te.size (xs++ys)):=⟨rfl,by simp⟩
      have tr:Tr base c (c.wr w' l (.grow te.size (xs++ys))):=wr_tr h1 hl hW hk (fun _ _ _ _=>hpure)
      refine ⟨.slice (some ⟨b,0,none⟩) (xs.length+ys.length) cap,w',c.ρ,?_,?_,wr_sim hs h1 hl hW hk ⟨ys'++NEW,_,T,s4,RelL.ext tr.ext _ _ (r2.append n1),fun y hy=>(List.mem_append.1 hy).elim (r3 y) (n2 y),hpure,hknown⟩,tr,set_hb hb hl (fun _=>hpure) hpure⟩
      ·rw [hrun]
       simp only [add_addr,Nat.zero_add,Sem.run_bind,s1,Result.andThen_ok,Sem.run_pure]
      ·simp only [Rel]
       exact ⟨_,cap,te.size,xs++ys,rfl,wr_get (w':=w') hl,⟨by simp,hle,.inr ⟨_,rfl⟩⟩,fun _=>.inr ⟨b,_,T,(0,0),h1,rfl,hle,s4,by
        have hh:(flat (ys'++NEW)++rest.drop (flat NEW).length).length=(flat ys'++rest).length:=by simp [zB8,n3];omega
        simp only [List.size_toArray] at h5 ⊢;omega⟩⟩
    ·rw [if_neg hle] at hrun
     have hne:ys≠[]:=by
      rintro rfl
      rcases hx3 with ⟨_,h2,_⟩ | ⟨_,_,_,_,_,_,h3,_⟩<;>simp at hle<;>omega
     have hge:=grown_ge c.w (xs.length+ys.length) cap e
     obtain ⟨ρ',g1,g2,g3,g4⟩:=move_grow (xs:=xs) (es:=ys) (ys:=OLD++NEW) (sz:=te.size) (T:=e)
      (rest:=(Builtin.zeroCells z.cells (grownCap c.w (xs.length+ys.length) cap e-(xs.length+ys.length))).toList) hs hb hB hl hne (o1.append n1)
      (fun y hy=>(List.mem_append.1 hy).elim (o2 y) (n2 y)) hpure hknown
      (w':={ c.w with drawn:=c.w.drawn+1,heap:=c.w.heap.push (.cells ((flat OLD).toArray++(flat NEW).toArray++Builtin.zeroCells z.cells (grownCap c.w (xs.length+ys.length) cap e-(xs.length+ys.length))) e) })
      rfl ⟨rfl,rfl,rfl⟩ (by simp [zB8]) (n:=xs.length+ys.length) (cap:=grownCap c.w (xs.length+ys.length) cap e) (by simp) hge (by
       simp only [Array.size_append,List.size_toArray,o3,n3,size_zero,hzs,← Nat.add_mul]
       exact Nat.mul_le_mul_right _ (by omega))
     exact ⟨_,_,ρ',hrun,g1,g2,g3,g4⟩
   ·cases h
  ·cases h
 ·cases h
end
end Go.Ab
