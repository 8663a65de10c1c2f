/- Each operation of the abstract evaluator is one of the model: maps, and slices that are made and copied. -/
import Derived.Test.YtjhnlfgleicnjaaGreatB3
namespace Go.Ab
set_option linter.unusedSimpArgs false
set_option linter.unusedVariables false
mutual
theorem same_eq:∀ (a b:AV),a.same b=true→a=b
 | .int _ _,b,h=>by cases b<;>simp_all [AV.same]
 | .bool _,b,h=>by cases b<;>simp_all [AV.same]
 | .nilp,b,h=>by cases b<;>simp_all [AV.same]
 | .ptr _ _,b,h=>by cases b<;>simp_all [AV.same]
 | .eptr _ _ _ _,b,h=>by cases b<;>simp_all [AV.same]
 | .vptr e o,b,h=>by
  cases b<;>simp only [AV.same,Bool.and_eq_true] at h<;>try (cases h;done)
  rw [same_eq e _ h.1,eq_of_beq h.2]
 | .sl f es,b,h=>by
  cases b<;>simp only [AV.same,Bool.and_eq_true] at h<;>try (cases h;done)
  rw [sameL_eq es _ h.2,eq_of_beq h.1]
 | .gsl _ _,b,h=>by cases b<;>simp_all [AV.same]
 | .wsl _ _ _ _,b,h=>by cases b<;>simp_all [AV.same]
 | .map _,b,h=>by cases b<;>simp_all [AV.same]
 | .nilmap,b,h=>by cases b<;>simp_all [AV.same]
 | .func f x y,b,h=>by
  cases b<;>simp only [AV.same,Bool.and_eq_true] at h<;>try (cases h;done)
  rw [eq_of_beq h.1.1,sameL_eq x _ h.1.2,sameL_eq y _ h.2]
 | .nilFunc,b,h=>by cases b<;>simp_all [AV.same]
 | .iface t v,b,h=>by
  cases b<;>simp only [AV.same,Bool.and_eq_true] at h<;>try (cases h;done)
  rw [eq_of_beq h.1,same_eq v _ h.2]
 | .nilIface,b,h=>by cases b<;>simp_all [AV.same]
 | .agg cs,b,h=>by
  cases b<;>simp only [AV.same] at h<;>try (cases h;done)
  rw [sameL_eq cs _ h]
 | .tup cs,b,h=>by
  cases b<;>simp only [AV.same] at h<;>try (cases h;done)
  rw [sameL_eq cs _ h]
 | .undef,b,h=>by cases b<;>simp_all [AV.same]
theorem sameL_eq:∀ (a b:List AV),zBd a b=true→a=b
 | [],b,h=>by cases b<;>simp_all [zBd]
 | x::a,b,h=>by
  cases b with
  | nil=>simp [zBd] at h
  | cons y b =>
   simp only [zBd,Bool.and_eq_true] at h
   rw [same_eq x y h.1,sameL_eq a b h.2]
end
theorem sameM_eq:∀ (a b:List (AV×AV)),sameM a b=true→a=b
 | [],b,h=>by cases b<;>simp_all [sameM]
 | (x,v)::a,b,h=>by
  cases b with
  | nil=>simp [sameM] at h
  | cons y b =>
   obtain ⟨y1,y2⟩:=y
   simp only [sameM,Bool.and_eq_true] at h
   rw [same_eq x y1 h.1,same_eq v y2 h.2.1,sameM_eq a b h.2.2]
theorem AO.same_eq {a b:AO} (h:a.same b=true):a=b:=by
 cases a<;>cases b<;>simp only [AO.same,Bool.and_eq_true] at h<;>try (cases h;done)
 ·rw [Ab.same_eq _ _ h]
 ·rw [eq_of_beq h.1,sameL_eq _ _ h.2]
 ·rw [eq_of_beq h.1,sameM_eq _ _ h.2]
section
variable {C:Cfg} {P:Program} {B base:Nat} {F:FI} {c:Cx} {e:Env} {a:Act}
theorem bits_same (n:Nat):∀ {ks:List (Option IntKind)} {xs:List AV},fits ks xs=true→∀ p∈(xs.map toV).zip (xs.map toV),Instr.sameBits n p.1 p.2=true
 | [],[],_,p,hp=>by simp at hp
 | [],_::_,h,_,_=>by simp [fits] at h
 | none::ks,x::xs,h,p,hp=>by
  cases x<;>simp only [fits] at h<;>try (cases h;done)
  simp only [List.map_cons,List.zip_cons_cons,List.mem_cons] at hp
  rcases hp with rfl | hp
  ·simp [toV,Instr.sameBits]
  ·exact bits_same n h p hp
 | some k::ks,x::xs,h,p,hp=>by
  cases x<;>simp only [fits] at h<;>try (cases h;done)
  simp only [Bool.and_eq_true] at h
  simp only [List.map_cons,List.zip_cons_cons,List.mem_cons] at hp
  rcases hp with rfl | hp
  ·simp [toV,Instr.sameBits]
  ·exact bits_same n h.2 p hp
 | _::_,[],h,_,_=>by simp [fits] at h
theorem key_bits {kt:TypeId} {k:AV} {K:Value} (h:KeyFit P kt k) (r:Rel c k K):Instr.sameBits 10000 K K=true:=by
 have hK:=keyFit_rel h r
 obtain ⟨ks,h1,h2,h3⟩:=h
 rcases h3 with ⟨cs,rfl,h4⟩ | ⟨q,n,rfl,h4⟩ | ⟨b,rfl,h4⟩
 ·rw [isStr_true h4] at hK
  subst hK
  have:=bits_same 9999 h2
  show Instr.sameBits (9999+1) _ _=true
  simp only [Instr.sameBits,beq_self_eq_true,Bool.true_and,List.all_eq_true]
  exact fun p hp=>this p hp
 ·simp only [Rel] at r;subst r;simp [Instr.sameBits]
 ·simp only [Rel] at r;subst r;simp [Instr.sameBits]
theorem lookup_find {k:AV}:∀ (es:List (AV×AV)) (i:Nat),zAj k es=(findM k es i).map (·.2)
 | [],i=>rfl
 | (k',v)::es,i=>by
  simp only [zAj,findM]
  split
  ·rfl
  ·exact lookup_find es (i+1)
theorem zB2 {w:World} {b:Nat} {es:Array MapEntry} {n:Nat} (h:w.heap[b]? = some (.map es n)):(getObj b).run P w=.ok (.map es n) w:=by
 simp [getObj,Sem.run,h]
theorem run_setMap {w:World} {b:Nat} {es:Array MapEntry} {n:Nat} (h:w.heap[b]? = some (.map es n)) (o:Obj):(setObj b o).run P w=.ok () { w with heap:=w.heap.setIfInBounds b o }:=by
 simp [setObj,Sem.run,h]
theorem lookup_ok (ok:Ok C P) (hs:Sim P B c) {t kt et l:TypeId} {ty:Ty} (hty:C.ty t=some ty) (hd:ty.d=.map kt et) {k:AV} {K M:Value} (hk:eqFit C kt k=true) (rk:Rel c k K) (rm:Rel c (.map l) M) {es:List (AV×AV)} (hl:c.H[l]? = some (.map kt es)) (q:Bool) :
  (∀ v,zAj k es=some v→∃ V,(Instr.lookup t M K q).run P c.w=.ok V c.w∧Rel c (if q then .tup [v,.bool true] else v) V) ∧
  (∀ te,zAj k es=none→C.ty et=some te→te.zeroOk=true→∃ V,(Instr.lookup t M K q).run P c.w=.ok V c.w∧Rel c (if q then .tup [te.zv,.bool false] else te.zv) V):=by
 have hu:=map_under (ok.ty _ _ hty) hd
 have hkf:=eqFit_key ok hk
 simp only [Rel] at rm
 obtain ⟨b,hb,_,rfl⟩:=rm
 obtain ⟨o,ho,hr⟩:=hs.obj l b hb
 rw [hl] at ho;cases ho
 obtain ⟨ents,h1,h2,h3⟩:=hr
 obtain ⟨u,hku⟩:=keyFit_under hkf
 obtain ⟨o,ho,hf⟩:=find_run hku hkf rk h2 h3 c.w
 rw [lookup_find es 0]
 have hcheck:=check_run hkf rk (ents.toArray).isEmpty c.w
 constructor
 ·intro v hv
  cases hfm:findM k es 0 with
  | none=>rw [hfm] at hv;cases hv
  | some p =>
   obtain ⟨m,v'⟩:=p
   rw [hfm] at hv hf
   simp only [Option.map_some,Option.some.injEq] at hv
   subst hv
   obtain ⟨V,rfl,hV⟩:=hf
   cases q with
   | true=>exact ⟨.tuple #[V,.bool true],by simp only [Instr.lookup,Sem.run_bind,zA9 hu,Result.andThen_ok,zB2 h1,Sem.run_pure,hcheck,ho,if_true],by simp only [if_true,Rel,RelL];exact ⟨_,rfl,V,_,rfl,hV,.bool true,[],rfl,rfl,rfl⟩⟩
   | false=>exact ⟨V,by simp only [Instr.lookup,Sem.run_bind,zA9 hu,Result.andThen_ok,zB2 h1,Sem.run_pure,hcheck,ho,Bool.false_eq_true,if_false],by simpa using hV⟩
 ·intro te hv hte hz
  obtain ⟨z,hz0,hzr,_⟩:=zero_rel hz
  have hzero:=run_zero (P:=P) (ok.ty _ _ hte) hz0 c.w
  cases hfm:findM k es 0 with
  | some p=>rw [hfm] at hv;cases hv
  | none =>
   rw [hfm] at hf
   cases hf
   cases q with
   | true=>exact ⟨.tuple #[z,.bool false],by simp only [Instr.lookup,Sem.run_bind,zA9 hu,Result.andThen_ok,zB2 h1,Sem.run_pure,hcheck,ho,hzero,if_true],by simp only [if_true,Rel,RelL];exact ⟨_,rfl,z,_,rfl,hzr c,.bool false,[],rfl,rfl,rfl⟩⟩
   | false=>exact ⟨z,by simp only [Instr.lookup,Sem.run_bind,zA9 hu,Result.andThen_ok,zB2 h1,Sem.run_pure,hcheck,ho,hzero,Bool.false_eq_true,if_false],by simpa using hzr c⟩
theorem put_some {k v:AV} {K V:Value} (rk:Rel c k K) (rv:Rel c v V):∀ (es:List (AV×AV)) (l:List MapEntry) (i m:Nat) (v0:AV),findM k es i=some (m,v0)→RelM c es l i →
  i≤m∧RelM c (putM k v es) (l.modify (m-i) fun e=>{ e with key:=K,val:=V }) i∧∃ e,l[m-i]? = some e∧∃ k',k.same k'=true∧Rel c k' e.key∧(k',v0)∈es
 | [],l,i,m,v0,h,_=>by simp [findM] at h
 | (k',v')::es,l,i,m,v0,h,r=>by
  simp only [RelM] at r
  obtain ⟨e,s,rfl,hk',hv',hb,hr⟩:=r
  simp only [findM] at h
  split at h
  ·rename_i hsm
   cases h
   refine ⟨Nat.le_refl _,?_,e,by simp,k',hsm,hk',by simp⟩
   simp only [putM,hsm,if_true,Nat.sub_self,List.modify_zero_cons,RelM]
   exact ⟨_,s,rfl,rk,rv,hb,hr⟩
  ·rename_i hsm
   obtain ⟨h1,h2,e',h3,k2,h4,h5,h6⟩:=put_some rk rv es s (i+1) m v0 h hr
   have hmi:m-i=(m-(i+1))+1:=by omega
   refine ⟨by omega,?_,e',by rw [hmi];simpa using h3,k2,h4,h5,by simp [h6]⟩
   simp only [putM]
   rw [if_neg hsm,hmi]
   simp only [List.modify_succ_cons,RelM]
   exact ⟨e,_,rfl,hk',hv',hb,h2⟩
theorem put_none {k v:AV} {K V:Value} (rk:Rel c k K) (rv:Rel c v V):∀ (es:List (AV×AV)) (l:List MapEntry) (i:Nat),findM k es i=none→RelM c es l i →
  RelM c (putM k v es) (l++[{ key:=K,val:=V,born:=i+l.length }]) i
 | [],l,i,_,r=>by
  simp only [RelM] at r;subst r
  simp only [putM,RelM,List.nil_append]
  exact ⟨_,[],rfl,rk,rv,by simp,rfl⟩
 | (k',v')::es,l,i,h,r=>by
  simp only [RelM] at r
  obtain ⟨e,s,rfl,hk',hv',hb,hr⟩:=r
  simp only [findM] at h
  split at h
  ·cases h
  ·rename_i hsm
   have:=put_none rk rv es s (i+1) h hr
   simp only [putM]
   rw [if_neg hsm]
   simp only [RelM,List.cons_append,List.length_cons]
   refine ⟨e,_,rfl,hk',hv',hb,?_⟩
   rw [show i+(s.length+1)=i+1+s.length by omega]
   exact this
theorem put_key {kt:TypeId} {k v:AV} (hk:KeyFit P kt k):∀ (es:List (AV×AV)),(∀ x∈es,KeyFit P kt x.1)→∀ x∈putM k v es,KeyFit P kt x.1
 | [],_,x,hx=>by simp [putM] at hx;subst hx;exact hk
 | (k',v')::es,h,x,hx=>by
  simp only [putM] at hx
  split at hx
  ·rcases List.mem_cons.1 hx with rfl | hx
   ·exact hk
   ·exact h x (by simp [hx])
  ·rcases List.mem_cons.1 hx with rfl | hx
   ·exact h (k',v') (by simp)
   ·exact put_key hk es (fun y hy=>h y (by simp [hy])) x hx
theorem put_lt {N:Nat} {k v:AV} (hk:k.lt N=true) (hv:v.lt N=true):∀ (es:List (AV×AV)),mapLt N es=true→mapLt N (putM k v es)=true
 | [],_=>by simp [putM,mapLt,hk,hv]
 | (k',v')::es,h=>by
  simp only [mapLt,Bool.and_eq_true] at h
  simp only [putM]
  split
  ·simp [mapLt,hk,hv,h.2.2]
  ·simp [mapLt,h.1,h.2.1,put_lt hk hv es h.2.2]
theorem mapUpdate_ok (ok:Ok C P) (hs:Sim P B c) (hb0:HB base c.H) {t kt et l:TypeId} {ty:Ty} (hty:C.ty t=some ty) (hd:ty.d=.map kt et) {k x:AV} {K M X:Value} (hk:eqFit C kt k=true) (rk:Rel c k K) (rm:Rel c (.map l) M) (rx:Rel c x X) {es:List (AV×AV)} (hl:c.H[l]? = some (.map kt es))
  {H':Heap} (hst:zB0 c.H base l x (.map kt (putM k x es))=some H') :
  ∃ w',(Instr.mapUpdate t M K X).run P c.w=.ok () w'∧Sim P B ⟨w',c.ρ,H'⟩∧Tr base c ⟨w',c.ρ,H'⟩∧HB base H':=by
 have hu:=map_under (ok.ty _ _ hty) hd
 have hkf:=eqFit_key ok hk
 unfold zB0 at hst
 split at hst
 ·rename_i hlt
  cases hst
  simp only [Bool.or_eq_true,decide_eq_true_eq] at hlt
  simp only [Rel] at rm
  obtain ⟨b,hb,_,rfl⟩:=rm
  obtain ⟨o,ho,hr⟩:=hs.obj l b hb
  rw [hl] at ho;cases ho
  obtain ⟨ents,h1,h2,h3⟩:=hr
  obtain ⟨u,hku⟩:=keyFit_under hkf
  obtain ⟨o,ho,hf⟩:=find_run hku hkf rk h2 h3 c.w
  have hcheck:=check_run hkf rk false c.w
  have hkind:Kind (.map kt es) (.map kt (putM k x es)):=rfl
  have hxl:x.lt c.H.length=true:=Rel.lt _ _ rx
  have fin:∀ l':List MapEntry,RelM c (putM k x es) l' 0→(Instr.mapUpdate t (.map (some b)) K X).run P c.w=.ok () { c.w with heap:=c.w.heap.setIfInBounds b (.map l'.toArray l'.length) } →
    ∃ w',(Instr.mapUpdate t (.map (some b)) K X).run P c.w=.ok () w'∧Sim P B ⟨w',c.ρ,c.H.set l (.map kt (putM k x es))⟩∧Tr base c ⟨w',c.ρ,c.H.set l (.map kt (putM k x es))⟩∧HB base (c.H.set l (.map kt (putM k x es))):=by
   intro l' hr' hrun
   have hblt:=(hs.lo l b hb).2
   have hW:Wr c b { c.w with heap:=c.w.heap.setIfInBounds b (.map l'.toArray l'.length) }:={
    sys:=⟨rfl,rfl,rfl⟩
    size:=by simp
    others:=fun d hd=>by simp only;rw [Array.getElem?_setIfInBounds_ne (fun e=>hd e.symm)]
    cells:=fun cs T fr hc=>by rw [h1] at hc;cases hc }
   refine ⟨_,hrun,wr_sim hs hb hl hW hkind ⟨l',?_,RelM.ext (wr_ext hb hl hW hkind) _ _ _ hr',put_key hkf es h3⟩,wr_tr hb hl hW hkind ?_,set_hb hb0 hl ?_ ?_⟩
   ·simp only [Cx.wr];rw [Array.getElem?_setIfInBounds_self_of_lt hblt]
   ·intro N hlb hlN ho
    rcases hlt with hlt | hlt
    ·exact put_lt (keyFit_lt N hkf) (zAu (by omega) x hlt) es ho
    ·omega
   ·intro hlb
    rcases hlt with hlt | hlt
    ·exact put_lt (keyFit_lt _ hkf) (zAu (by omega) x hlt) es (hb0.old l _ hlb hl)
    ·omega
   ·exact put_lt (keyFit_lt _ hkf) hxl es (hb0.all l _ hl)
  cases hfm:findM k es 0 with
  | none =>
   rw [hfm] at hf
   cases hf
   refine fin _ (put_none rk rx es ents 0 hfm h2) ?_
   simp only [Instr.mapUpdate,Sem.run_bind,zA9 hu,Result.andThen_ok,zB2 h1,hcheck,ho]
   rw [run_setMap h1]
   simp
  | some p =>
   obtain ⟨m,v0⟩:=p
   rw [hfm] at hf
   obtain ⟨V,rfl,_⟩:=hf
   obtain ⟨_,hp,e',he',k',hsm,hke,hmem⟩:=put_some rk rx es ents 0 m v0 hfm h2
   have hkk:=same_eq _ _ hsm
   subst hkk
   have hKe:e'.key=K:=by rw [keyFit_rel hkf hke,keyFit_rel hkf rk]
   refine fin _ hp ?_
   have hstay:(Instr.keyThatStays (((ents.toArray)[m]?.map (·.key)).getD K) K).run P c.w=.ok K c.w:=by
    rw [List.getElem?_toArray,show ents[m]? = some e' by simpa using he']
    simp only [Option.map_some,Option.getD_some,hKe,Instr.keyThatStays,key_bits hkf rk,if_true,Sem.run_pure]
   simp only [Instr.mapUpdate,Sem.run_bind,zA9 hu,Result.andThen_ok,zB2 h1,hcheck,ho,hstay]
   rw [run_setMap h1]
   simp
 ·cases hst
theorem map_set (hs:Sim P B c) (hb0:HB base c.H) {kt l b:Nat} {es es':List (AV×AV)} {ents l':List MapEntry} (hb:c.ρ l=some b) (hl:c.H[l]? = some (.map kt es)) (h1:c.w.heap[b]? = some (.map ents.toArray ents.length))
  (hr:RelM c es' l' 0) (hk:∀ x∈es',KeyFit P kt x.1) (hlt:∀ N,l<base→l<N→mapLt N es=true→mapLt N es'=true) (hall:mapLt c.H.length es'=true) :
  Ext c ⟨{ c.w with heap:=c.w.heap.setIfInBounds b (.map l'.toArray l'.length) },c.ρ,c.H.set l (.map kt es')⟩∧Sim P B ⟨{ c.w with heap:=c.w.heap.setIfInBounds b (.map l'.toArray l'.length) },c.ρ,c.H.set l (.map kt es')⟩ ∧
   Tr base c ⟨{ c.w with heap:=c.w.heap.setIfInBounds b (.map l'.toArray l'.length) },c.ρ,c.H.set l (.map kt es')⟩∧HB base (c.H.set l (.map kt es')):=by
 have hkind:Kind (.map kt es) (.map kt es'):=rfl
 have hblt:=(hs.lo l b hb).2
 have hW:Wr c b { c.w with heap:=c.w.heap.setIfInBounds b (.map l'.toArray l'.length) }:={
  sys:=⟨rfl,rfl,rfl⟩
  size:=by simp
  others:=fun d hd=>by simp only;rw [Array.getElem?_setIfInBounds_ne (fun e=>hd e.symm)]
  cells:=fun cs T fr hc=>by rw [h1] at hc;cases hc }
 refine ⟨wr_ext hb hl hW hkind,wr_sim hs hb hl hW hkind ⟨l',?_,RelM.ext (wr_ext hb hl hW hkind) _ _ _ hr,hk⟩,wr_tr hb hl hW hkind (fun N h2 h3 ho=>hlt N h2 h3 ho),set_hb hb0 hl (fun h=>hlt _ h h (hb0.old l _ h hl)) hall⟩
 simp only [Cx.wr];rw [Array.getElem?_setIfInBounds_self_of_lt hblt]
theorem put_same {k:AV}:∀ (es:List (AV×AV)) (i m:Nat) (v:AV),findM k es i=some (m,v)→putM k v es=es
 | [],i,m,v,h=>by simp [findM] at h
 | (k',v')::es,i,m,v,h=>by
  simp only [findM] at h
  split at h
  ·rename_i hs
   cases h
   have:=same_eq _ _ hs
   subst this
   simp only [putM,hs,if_true]
  ·rename_i hs
   simp only [putM]
   rw [if_neg hs,put_same es (i+1) m v h]
theorem idx_some {k:AV}:∀ (es:List (AV×AV)) (i m:Nat) (v:AV),findM k es i=some (m,v)→m=i+idxM k es∧idxM k es<es.length
 | [],i,m,v,h=>by simp [findM] at h
 | (k',v')::es,i,m,v,h=>by
  simp only [findM] at h
  simp only [idxM,List.length_cons]
  split at h
  ·rename_i hs
   cases h
   rw [if_pos hs];omega
  ·rename_i hs
   rw [if_neg hs]
   have:=idx_some es (i+1) m v h
   omega
theorem idx_none {k:AV}:∀ (es:List (AV×AV)) (i:Nat),findM k es i=none→idxM k es=es.length
 | [],i,_=>rfl
 | (k',v')::es,i,h=>by
  simp only [findM] at h
  simp only [idxM,List.length_cons]
  split at h
  ·cases h
  ·rename_i hs
   rw [if_neg hs,idx_none es (i+1) h]
theorem RelM.len:∀ {es:List (AV×AV)} {l:List MapEntry} {i:Nat},RelM c es l i→l.length=es.length
 | [],l,i,r=>by simp only [RelM] at r;subst r;rfl
 | (k,v)::es,l,i,r=>by
  simp only [RelM] at r
  obtain ⟨e,s,rfl,_,_,_,hr⟩:=r
  simp only [List.length_cons,RelM.len hr]
theorem RelM.at:∀ {es:List (AV×AV)} {l:List MapEntry} {i:Nat},RelM c es l i→∀ (m:Nat) (e:MapEntry),l[m]? = some e→e.born=i+m∧∃ p,es[m]? = some p∧Rel c p.1 e.key∧Rel c p.2 e.val
 | [],l,i,r,m,e,h=>by simp only [RelM] at r;subst r;simp at h
 | (k,v)::es,l,i,r,m,e,h=>by
  simp only [RelM] at r
  obtain ⟨e',s,rfl,h1,h2,h3,hr⟩:=r
  cases m with
  | zero=>simp at h;subst h;exact ⟨h3,(k,v),rfl,h1,h2⟩
  | succ m =>
   obtain ⟨g1,p,g2,g3⟩:=RelM.at hr m e (by simpa using h)
   exact ⟨by omega,p,by simpa using g2,g3⟩
theorem keep_some {k:AV} {K:Value} (rk:Rel c k K):∀ (es:List (AV×AV)) (l:List MapEntry) (i m:Nat) (v0:AV),findM k es i=some (m,v0)→RelM c es l i→RelM c es (l.modify (m-i) fun e=>{ e with key:=K }) i
 | [],l,i,m,v0,h,_=>by simp [findM] at h
 | (k',v')::es,l,i,m,v0,h,r=>by
  simp only [RelM] at r
  obtain ⟨e,s,rfl,hk',hv',hb,hr⟩:=r
  have hmi:=(idx_some _ _ _ _ h).1
  simp only [findM] at h
  split at h
  ·rename_i hsm
   cases h
   have:=same_eq _ _ hsm
   subst this
   simp only [Nat.sub_self,List.modify_zero_cons,RelM]
   exact ⟨_,s,rfl,rk,hv',hb,hr⟩
  ·rename_i hsm
   have h2:=keep_some rk es s (i+1) m v0 h hr
   have:=(idx_some _ _ _ _ h).1
   have hmi:m-i=(m-(i+1))+1:=by omega
   rw [hmi]
   simp only [List.modify_succ_cons,RelM]
   exact ⟨e,_,rfl,hk',hv',hb,h2⟩
theorem mapEntry_ok (ok:Ok C P) (hs:Sim P B c) (hb0:HB base c.H) {t kt et l:TypeId} {ty te:Ty} (hty:C.ty t=some ty) (hd:ty.d=.map kt et) (hte:C.ty et=some te) (hz:te.zeroOk=true) {k:AV} {K M:Value} (hk:eqFit C kt k=true) (rk:Rel c k K) (rm:Rel c (.map l) M) {es:List (AV×AV)} (hl:c.H[l]? = some (.map kt es))
  {H':Heap} (hst:zB0 c.H base l ((zAj k es).getD te.zv) (.map kt (putM k ((zAj k es).getD te.zv) es))=some H') :
  ∃ V w',(Instr.mapEntry t M K).run P c.w=.ok V w'∧Rel ⟨w',c.ρ,H'⟩ (.tup [(zAj k es).getD te.zv,.int .i64 (idxM k es)]) V∧Sim P B ⟨w',c.ρ,H'⟩∧Tr base c ⟨w',c.ρ,H'⟩∧HB base H':=by
 have hu:=map_under (ok.ty _ _ hty) hd
 have hkf:=eqFit_key ok hk
 unfold zB0 at hst
 split at hst
 ·rename_i hlt
  cases hst
  simp only [Bool.or_eq_true,decide_eq_true_eq] at hlt
  simp only [Rel] at rm
  obtain ⟨b,hb,_,rfl⟩:=rm
  obtain ⟨o,ho,hr⟩:=hs.obj l b hb
  rw [hl] at ho;cases ho
  obtain ⟨ents,h1,h2,h3⟩:=hr
  obtain ⟨u,hku⟩:=keyFit_under hkf
  obtain ⟨o,ho,hf⟩:=find_run hku hkf rk h2 h3 c.w
  have hcheck:=check_run hkf rk false c.w
  have hlen:=RelM.len h2
  have hput:∀ N,((zAj k es).getD te.zv).lt N=true→mapLt N es=true→mapLt N (putM k ((zAj k es).getD te.zv) es)=true:=fun N hN he=>put_lt (keyFit_lt N hkf) hN es he
  cases hfm:findM k es 0 with
  | none =>
   rw [hfm] at hf
   cases hf
   have hlk:zAj k es=none:=by rw [lookup_find es 0,hfm];rfl
   obtain ⟨z,hz0,hzr,_⟩:=zero_rel hz
   have hzero:=run_zero (P:=P) (ok.ty _ _ hte) hz0 c.w
   have hnone:=put_none rk (hzr c) es ents 0 hfm h2
   rw [hlk] at hlt hput ⊢
   simp only [Option.getD_none] at hlt hput ⊢
   obtain ⟨g0,g1,g2,g3⟩:=map_set (base:=base) hs hb0 hb hl h1 hnone (put_key hkf es h3) (fun N hlb hlN he=>by
    rcases hlt with hlt | hlt
    ·exact hput N (zAu (by omega) _ hlt) he
    ·omega) (hput _ (Rel.lt _ _ (hzr c)) (hb0.all l _ hl))
   refine ⟨.tuple #[z,.int .i64 (es.length:Nat)],_,?_,?_,g1,g2,g3⟩
   ·simp only [Instr.mapEntry,Sem.run_bind,zA9 hu,Result.andThen_ok,zB2 h1,hcheck,ho,hzero]
    rw [run_setMap h1]
    simp [goInt,hlen]
   ·simp only [Rel,RelL]
    exact ⟨_,rfl,z,_,rfl,hzr _,_,[],rfl,by rw [idx_none es 0 hfm],rfl⟩
  | some p =>
   obtain ⟨m,v0⟩:=p
   rw [hfm] at hf
   obtain ⟨V,rfl,hV⟩:=hf
   have hlk:zAj k es=some v0:=by rw [lookup_find es 0,hfm];rfl
   rw [hlk] at hlt hput ⊢
   simp only [Option.getD_some] at hlt hput ⊢
   have hps:=put_same es 0 m v0 hfm
   rw [hps] at hput ⊢
   obtain ⟨him,hil⟩:=idx_some es 0 m v0 hfm
   have hkeep:=keep_some rk es ents 0 m v0 hfm h2
   rw [Nat.sub_zero] at hkeep
   obtain ⟨_,_,e',he',k',hsm,hke,hmem⟩:=put_some rk hV es ents 0 m v0 hfm h2
   rw [Nat.sub_zero] at he'
   have hkk:=same_eq _ _ hsm
   subst hkk
   have hKe:e'.key=K:=by rw [keyFit_rel hkf hke,keyFit_rel hkf rk]
   have hborn:=(RelM.at h2 m e' he').1
   rw [Nat.zero_add] at him hborn
   subst him
   obtain ⟨g0,g1,g2,g3⟩:=map_set (base:=base) hs hb0 hb hl h1 hkeep h3 (fun N hlb hlN he=>he) (hb0.all l _ hl)
   refine ⟨.tuple #[V,.int .i64 (idxM k es:Nat)],_,?_,?_,g1,g2,g3⟩
   ·have hstay:(Instr.keyThatStays (((ents.toArray)[idxM k es]?.map (·.key)).getD K) K).run P c.w=.ok K c.w:=by
     rw [List.getElem?_toArray,he']
     simp only [Option.map_some,Option.getD_some,hKe,Instr.keyThatStays,key_bits hkf rk,if_true,Sem.run_pure]
    simp only [Instr.mapEntry,Sem.run_bind,zA9 hu,Result.andThen_ok,zB2 h1,hcheck,ho,hstay]
    rw [run_setMap h1]
    simp [goInt,he',hborn]
   ·simp only [Rel,RelL]
    exact ⟨_,rfl,V,_,rfl,Rel.ext g0 _ _ hV,_,[],rfl,rfl,rfl⟩
 ·cases hst
theorem set_rel {x:AV} {X:Value} (rx:Rel c x X):∀ (n:Nat) (es:List (AV×AV)) (l:List MapEntry) (i:Nat),RelM c es l i→RelM c (setM x n es) (l.modify n fun e=>{ e with val:=X }) i
 | n,[],l,i,r=>by
  simp only [RelM] at r;subst r
  cases n<;>simp [setM,RelM]
 | 0,(k,v)::es,l,i,r=>by
  simp only [RelM] at r
  obtain ⟨e,s,rfl,h1,h2,h3,hr⟩:=r
  simp only [setM,List.modify_zero_cons,RelM]
  exact ⟨_,s,rfl,h1,rx,h3,hr⟩
 | n+1,(k,v)::es,l,i,r=>by
  simp only [RelM] at r
  obtain ⟨e,s,rfl,h1,h2,h3,hr⟩:=r
  simp only [setM,List.modify_succ_cons,RelM]
  exact ⟨e,_,rfl,h1,h2,h3,set_rel rx n es s (i+1) hr⟩
theorem setM_key {x:AV} {Q:AV→Prop}:∀ (n:Nat) (es:List (AV×AV)),(∀ p∈es,Q p.1)→∀ p∈setM x n es,Q p.1
 | n,[],h,p,hp=>by cases n<;>simp [setM] at hp
 | 0,(k,v)::es,h,p,hp=>by
  simp only [setM] at hp
  rcases List.mem_cons.1 hp with rfl | hp
  ·exact h (k,v) (by simp)
  ·exact h p (by simp [hp])
 | n+1,(k,v)::es,h,p,hp=>by
  simp only [setM] at hp
  rcases List.mem_cons.1 hp with rfl | hp
  ·exact h (k,v) (by simp)
  ·exact setM_key n es (fun q hq=>h q (by simp [hq])) p hp
theorem setM_lt {N:Nat} {x:AV} (hx:x.lt N=true):∀ (n:Nat) (es:List (AV×AV)),mapLt N es=true→mapLt N (setM x n es)=true
 | n,[],h=>by cases n<;>rfl
 | 0,(k,v)::es,h=>by
  simp only [mapLt,Bool.and_eq_true] at h
  simp only [setM,mapLt,Bool.and_eq_true]
  exact ⟨h.1,hx,h.2.2⟩
 | n+1,(k,v)::es,h=>by
  simp only [mapLt,Bool.and_eq_true] at h
  simp only [setM,mapLt,Bool.and_eq_true]
  exact ⟨h.1,h.2.1,setM_lt hx n es h.2.2⟩
theorem entryStore_ok (hs:Sim P B c) (hb0:HB base c.H) {t:TypeId} {kt l:Nat} {x:AV} {M X:Value} (rm:Rel c (.map l) M) (rx:Rel c x X) {es:List (AV×AV)} (hl:c.H[l]? = some (.map kt es)) {n:Int} (hn:0≤n∧n.toNat<es.length)
  {H':Heap} (hst:zB0 c.H base l x (.map kt (setM x n.toNat es))=some H') :
  ∃ w',(Instr.entryStore t M (.int .i64 n) X).run P c.w=.ok () w'∧Sim P B ⟨w',c.ρ,H'⟩∧Tr base c ⟨w',c.ρ,H'⟩∧HB base H':=by
 unfold zB0 at hst
 split at hst
 ·rename_i hlt
  cases hst
  simp only [Bool.or_eq_true,decide_eq_true_eq] at hlt
  simp only [Rel] at rm
  obtain ⟨b,hb,_,rfl⟩:=rm
  obtain ⟨o,ho,hr⟩:=hs.obj l b hb
  rw [hl] at ho;cases ho
  obtain ⟨ents,h1,h2,h3⟩:=hr
  have hlen:=RelM.len h2
  obtain ⟨m,rfl⟩:∃ m:Nat,n=m:=⟨n.toNat,by omega⟩
  simp only [Int.toNat_natCast] at hn hlt ⊢
  have hm:m<ents.length:=by omega
  obtain ⟨g0,g1,g2,g3⟩:=map_set (base:=base) hs hb0 hb hl h1 (set_rel rx m es ents 0 h2) (setM_key (Q:=KeyFit P kt) m es h3) (fun N hlb hlN he=>by
   rcases hlt with hlt | hlt
   ·exact setM_lt (zAu (by omega) _ hlt) m es he
   ·omega) (setM_lt (Rel.lt _ _ rx) m es (hb0.all l _ hl))
  have hfi:ents.findIdx? (fun e=>(e.born:Int)==(m:Int))=some m:=by
   rw [List.findIdx?_eq_some_iff_getElem]
   refine ⟨hm,?_,fun j hj=>?_⟩
   ·have:=(RelM.at h2 m ents[m] (List.getElem?_eq_getElem hm)).1
    rw [this];simp
   ·have:=(RelM.at h2 j ents[j] (List.getElem?_eq_getElem (by omega))).1
    rw [this];simp;omega
  refine ⟨_,?_,g1,g2,g3⟩
  simp only [Instr.entryStore,Sem.run_bind,Result.andThen_ok,zB2 h1,asInt,asIntOf,Sem.run_pure,List.findIdx?_toArray,hfi]
  rw [run_setMap h1]
  simp
 ·cases hst
theorem delete_ok (ok:Ok C P) (hs:Sim P B c) (hb0:HB base c.H) {t kt et l:TypeId} {ty:Ty} (hty:C.ty t=some ty) (hd:ty.d=.map kt et) {k:AV} {K M:Value} (hk:eqFit C kt k=true) (rk:Rel c k K) (rm:Rel c (.map l) M) {es:List (AV×AV)} (hl:c.H[l]? = some (.map kt es)) (hf:(zAj k es).isSome=true)
  {tys:Array TypeId} (ht:tys[0]? = some t) (ty':TypeId) :
  ∃ w',(Builtin.delete_ tys ty' #[M,K]).run P c.w=.ok (.tuple #[]) w'∧Sim P B ⟨w',c.ρ,c.H.set l (.dmap kt es (idxM k es))⟩∧Tr base c ⟨w',c.ρ,c.H.set l (.dmap kt es (idxM k es))⟩∧HB base (c.H.set l (.dmap kt es (idxM k es))):=by
 have hu:=map_under (ok.ty _ _ hty) hd
 have hkf:=eqFit_key ok hk
 simp only [Rel] at rm
 obtain ⟨b,hb,_,rfl⟩:=rm
 obtain ⟨o,ho,hr⟩:=hs.obj l b hb
 rw [hl] at ho;cases ho
 obtain ⟨ents,h1,h2,h3⟩:=hr
 obtain ⟨u,hku⟩:=keyFit_under hkf
 obtain ⟨o,ho,hfo⟩:=find_run hku hkf rk h2 h3 c.w
 have hcheck:=check_run hkf rk (ents.toArray).isEmpty c.w
 rw [lookup_find es 0] at hf
 cases hfm:findM k es 0 with
 | none=>rw [hfm] at hf;cases hf
 | some p =>
  obtain ⟨m,v0⟩:=p
  rw [hfm] at hfo
  obtain ⟨V,rfl,_⟩:=hfo
  obtain ⟨him,hil⟩:=idx_some es 0 m v0 hfm
  rw [Nat.zero_add] at him
  subst him
  have hkind:Kind (.map kt es) (.dmap kt es (idxM k es)):=rfl
  have hblt:=(hs.lo l b hb).2
  have hW:Wr c b { c.w with heap:=c.w.heap.setIfInBounds b (.map (ents.eraseIdx (idxM k es)).toArray ents.length) }:={
   sys:=⟨rfl,rfl,rfl⟩
   size:=by simp
   others:=fun d hd=>by simp only;rw [Array.getElem?_setIfInBounds_ne (fun e=>hd e.symm)]
   cells:=fun cs T fr hc=>by rw [h1] at hc;cases hc }
  have hlen:=RelM.len h2
  refine ⟨{ c.w with heap:=c.w.heap.setIfInBounds b (.map (ents.eraseIdx (idxM k es)).toArray ents.length) },?_,wr_sim hs hb hl hW hkind ⟨ents,?_,RelM.ext (wr_ext hb hl hW hkind) _ _ _ h2,hil⟩,wr_tr hb hl hW hkind (fun N h2 h3 ho=>ho),set_hb hb0 hl (fun h=>by have:=hb0.old l (.map kt es) h hl;exact this) (by have:=hb0.all l (.map kt es) hl;exact this)⟩
  ·simp only [Builtin.delete_,ht,List.getElem?_toArray,List.getElem?_cons_zero,List.getElem?_cons_succ,Sem.run_bind,zA9 hu,Result.andThen_ok,zB2 h1,hcheck,ho,Sem.run_pure]
   rw [run_setMap h1]
   simp [Array.eraseIdxIfInBounds,hlen,hil,Sem.run_pure]
  ·simp only [Cx.wr];rw [Array.getElem?_setIfInBounds_self_of_lt hblt]
end
end Go.Ab
