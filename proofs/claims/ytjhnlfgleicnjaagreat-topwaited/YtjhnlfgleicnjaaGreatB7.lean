/- Each operation of the abstract evaluator that gives a value is one of the model: all of them. -/
import Derived.Test.YtjhnlfgleicnjaaGreatB6
namespace Go.Ab
set_option linter.unusedSimpArgs false
set_option linter.unusedVariables false
section
variable {C:Cfg} {P:Program} {B:Nat} {F:FI} {c:Cx} {e:Env} {a:Act}
theorem run_places {fa:Array Field} (h:∀ f∈fa.toList,∃ y,tyOf P f.type=some y) (w:World) :
  (fa.mapM fun f=>(do pure (f.offset,← sizeOf f.type):Sem (Nat×Nat))).run P w=.ok (fa.map fun f=>(f.offset,P.cellsOf f.type)) w:=by
 rw [Array.mapM_eq_mapM_toList]
 have:∀ (l:List Field),(∀ f∈l,∃ y,tyOf P f.type=some y)→(l.mapM fun f=>(do pure (f.offset,← sizeOf f.type):Sem (Nat×Nat))).run P w=.ok (l.map fun f=>(f.offset,P.cellsOf f.type)) w:=by
  intro l
  induction l with
  | nil=>intro _;simp
  | cons f l ih =>
   intro hl
   obtain ⟨y,hy⟩:=hl f (by simp)
   simp only [List.mapM_cons,Sem.run_bind,zB1 hy,Result.andThen_ok,Sem.run_pure,ih (fun g hg=>hl g (by simp [hg])),List.map_cons,cellsOf_ty hy]
 simp only [Sem.run_map,this fa.toList h,Result.andThen_ok]
 congr 1
 apply Array.ext'
 simp
theorem build_run (ok:Ok C P) (hg:GlobOk c) (he:zBc c e a.tmps) {t:TypeId} {ty:Ty} (hty:C.ty t=some ty) (hz:ty.zeroOk=true) {ps:List (Nat×Operand)} {cs:List AV}
  (h:(∃ fs,ty.d=.struct fs∧fillA (zAz C fs) ty.zv.cells (ps.map fun x=>(x.1,opd C e x.2))=some cs) ∨
   (∃ n el te,ty.d=.array n el∧C.ty el=some te∧fillA (fun i=>some (i*te.size,te.size)) ty.zv.cells (ps.map fun x=>(x.1,opd C e x.2))=some cs)) :
  ∃ V,(Instr.build t (ps.map fun x=>(x.1,a.eval x.2)).toArray).run P c.w=.ok V c.w∧Rel c (.agg cs) V:=by
 have hty':=ok.ty _ _ hty
 obtain ⟨z,hz0,hzr,hzk,hzs,hzl⟩:=zero_rel hz
 have hzero:=run_zero hty' hz0 c.w
 have hcells:=zBe hzk (hzr c)
 obtain ⟨hp1,hp2⟩:=rel_parts ok hg he ps
 rcases h with ⟨fs,hd,h⟩ | ⟨n,el,te,hd,hte,h⟩
 ·obtain ⟨fa,hu,rfl⟩:=struct_under hty' hd
  have hall:∀ f∈fa.toList,∃ y,tyOf P f.type=some y:=fun f hf=>by
   obtain ⟨y,hy⟩:=ok.fields _ _ _ hty hd (f.offset,f.type) (List.mem_map.2 ⟨f,hf,rfl⟩)
   exact ⟨y,ok.ty _ _ hy⟩
  obtain ⟨zs,g1,g2,_⟩:=fill_run (place':=fun i=>(fa.map fun f=>(f.offset,P.cellsOf f.type))[i]?) (fun i p hp=>by
   obtain ⟨f,y,h1,h2,rfl⟩:=places_get ok _ _ _ hp
   simp only [Array.getElem?_map]
   rw [← Array.getElem?_toList,h1]
   simp [cellsOf_ty h2]) _ _ _ _ _ h hcells hp1 hp2
  simp only [Array.toArray_toList] at g1
  refine ⟨.agg zs.toArray,?_,by simp only [Rel];exact ⟨_,rfl,g2⟩⟩
  simp only [Instr.build,Sem.run_bind,hzero,Result.andThen_ok,zA9 hu,run_places hall,g1,Sem.run_pure]
 ·have hu:=array_under hty' hd
  obtain ⟨zs,g1,g2,_⟩:=fill_run (place':=fun i=>some (i*te.size,te.size)) (fun i p hp=>hp) _ _ _ _ _ h hcells hp1 hp2
  simp only [Array.toArray_toList] at g1
  refine ⟨.agg zs.toArray,?_,by simp only [Rel];exact ⟨_,rfl,g2⟩⟩
  simp only [Instr.build,Sem.run_bind,hzero,Result.andThen_ok,zA9 hu,zB1 (ok.ty _ _ hte),g1,Sem.run_pure]
theorem map_pairs (ps:Array (Nat×Operand)) (ρ:Operand→Value):(ps.map fun (x:Nat×Operand)=>(x.1,ρ x.2))=(ps.toList.map fun x=>(x.1,ρ x.2)).toArray:=by
 apply Array.ext';simp
theorem evZero_run (hs:Sim P B c) {t i:Nat} {x v:AV} {X:Value} {H':Heap} {fs:Array Field} (hu0:P.underlying t=some (.struct fs)) {f:Field} (hf:fs[i]? = some f) (hsz:∃ y,tyOf P f.type=some y∧y.size=0) (h:evZero P c.H t i x=some (.val v H')) (r:Rel c x X) :
  ∃ V,(Instr.fieldAt t X i).run P c.w=.ok V c.w∧Rel c v V∧H'=c.H:=by
 unfold evZero at h
 split at h
 ·rename_i fs' l off hu
  rw [hu0] at hu;cases hu
  split at h
  ·rename_i f' hf' hl
   rw [hf] at hf';cases hf'
   split at h
   ·rename_i h0
    cases h
    have r0:=r
    simp only [Rel] at r
    obtain ⟨b,hb,_,rfl⟩:=r
    obtain ⟨o,ho,hr⟩:=hs.obj l b hb
    rw [hl] at ho;cases ho
    obtain ⟨y,T,h1,h2,h3,h4⟩:=hr
    simp only [Rel,RelL] at h2
    obtain ⟨ar,rfl,har⟩:=h2
    have hemp:ar=#[]:=Array.ext' (by simpa using har)
    subst hemp
    have h3':P.cellsOf T=0:=by simpa [Value.cells] using h3
    have hnv:(noView ⟨b,off,none⟩).run P c.w=.ok () c.w:=by
     simp [noView,viewAt,World.shape?,h1]
    have hbyte:∀ o',(byteOf ⟨b,o',none⟩).run P c.w=.ok 0 c.w:=by
     intro o'
     have hnv:(noView ⟨b,o',none⟩).run P c.w=.ok () c.w:=by simp [noView,viewAt,World.shape?,h1]
     simp [byteOf,hnv,World.shape?,h1,h3']
    obtain ⟨yt,hyt,hys⟩:=hsz
    refine ⟨.pointer (some ⟨b,off,none⟩),?_,r0,rfl⟩
    simp only [Instr.fieldAt,Sem.run_bind,zA9 hu0,Result.andThen_ok,hf,Instr.sureAddr,Sem.run_pure,fieldPlace,zB1 hyt,hys,if_true,Sem.run_ite,partAt,h0.1,h0.2,hbyte,Nat.add_zero]
   ·cases h
  ·cases h
 ·cases h
theorem fieldAddr_run (ok:Ok C P) (hs:Sim P B c) {t i:Nat} {ty:Ty} {fs:List (Nat×TypeId)} {off:Nat} {ft:TypeId} {fy:Ty} (hty:C.ty t=some ty) (hd:ty.d=.struct fs) (hi:fs[i]? = some (off,ft)) (hfy:C.ty ft=some fy) {x v:AV} {X:Value} {H':Heap}
  (h:(if fy.size=0 then evZero P c.H t i x else (addOff x off).map fun v=>OpR.val v c.H)=some (.val v H')) (r:Rel c x X):∃ V,(Instr.fieldAt t X i).run P c.w=.ok V c.w∧Rel c v V∧H'=c.H:=by
 obtain ⟨fa,hu,rfl⟩:=struct_under (ok.ty _ _ hty) hd
 rw [List.getElem?_map] at hi
 cases hf:fa.toList[i]? with
 | none=>rw [hf] at hi;cases hi
 | some f =>
  rw [hf] at hi
  simp only [Option.map_some,Option.some.injEq,Prod.mk.injEq] at hi
  obtain ⟨rfl,rfl⟩:=hi
  have hf':fa[i]? = some f:=by rw [← Array.getElem?_toList];exact hf
  have hfy':=ok.ty _ _ hfy
  split at h
  ·rename_i h0
   exact evZero_run hs hu hf' ⟨fy,hfy',h0⟩ h r
  ·rename_i h0
   cases ha:addOff x f.offset with
   | none=>rw [ha] at h;cases h
   | some v' =>
    rw [ha] at h
    simp only [Option.map_some,Option.some.injEq,OpR.val.injEq] at h
    obtain ⟨rfl,rfl⟩:=h
    obtain ⟨b,o,rfl,hr⟩:=addOff_rel ha r
    refine ⟨_,?_,hr,rfl⟩
    simp only [Instr.fieldAt,Sem.run_bind,zA9 hu,Result.andThen_ok,hf',Instr.sureAddr,Sem.run_pure,fieldPlace,zB1 hfy',Sem.run_ite,h0,if_false,add_addr]
theorem indexAddr_slice (ok:Ok C P) {t el:Nat} {ty te:Ty} (hty:C.ty t=some ty) (hd:ty.d=.slice el) (hte:C.ty el=some te) {x v:AV} {X:Value} {kk:IntKind} {k:Int}
  (h:(∃ f es,x=.sl f es∧0≤k∧∃ u,es[k.toNat]? = some u∧u.cells.length=te.size∧v=.vptr u 0)∨(∃ l n xs,x=.gsl l n∧c.H[l]? = some (.grow te.size xs)∧xs.length=n∧0≤k∧k.toNat<n∧v=.eptr l n k.toNat 0)) (r:Rel c x X) :
  ∃ V,(Instr.indexAt t X (.int kk k)).run P c.w=.ok V c.w∧Rel c v V:=by
 have hu:=zBr (ok.ty _ _ hty) hd
 have hte':=ok.ty _ _ hte
 rcases h with ⟨f,es,rfl,h0,u,hu0,hul,rfl⟩ | ⟨l,n,xs,rfl,hl,rfl,h0,h1,rfl⟩
 ·simp only [Rel] at r
  obtain ⟨ad,cap,rfl,_,⟨hp,hk⟩,r⟩:=r
  have hlt:=(List.getElem?_eq_some_iff.1 hu0).1
  rcases r with rfl | ⟨b,o,sz,ys,rfl,hb,hno,hr,hsz,hlies⟩
  ·simp at hlt
  ·obtain ⟨y,hy,hyr⟩:=hr.get hu0
   have huk:=hk u (List.mem_of_getElem? hu0)
   have hys:=hsz y (List.mem_of_getElem? hy)
   have:=known_size huk hyr
   have hszz:sz=te.size:=by omega
   subst hszz
   refine ⟨.pointer (some ⟨b,o+k.toNat*te.size,none⟩),?_,?_⟩
   ·simp only [Instr.indexAt,asIntOf,Sem.run_bind,Sem.run_pure,Result.andThen_ok,zA9 hu,Sem.run_ite]
    rw [if_pos ⟨h0,by omega⟩]
    simp only [zB1 hte',Result.andThen_ok,add_addr]
   ·simp only [Rel]
    refine ⟨⟨ltL_mem hp u (List.mem_of_getElem? hu0),huk⟩,b,o+k.toNat*te.size,y,rfl,hb,hno,hyr,fun j hj=>?_⟩
    simp only [Array.length_toList] at hj
    rw [Nat.add_assoc,hlies _ (by
     rw [zAr hsz]
     have h3:k.toNat+1≤ys.length:=(List.getElem?_eq_some_iff.1 hy).1
     have:=Nat.mul_le_mul_right te.size h3
     rw [Nat.succ_mul] at this;omega),flat_get hsz hy (by omega)]
    simp
 ·simp only [Rel] at r
  obtain ⟨ad,cap,sz,xs',rfl,hx1,hx2,hx3⟩:=r
  rw [hl] at hx1;cases hx1
  rcases hx3 rfl with ⟨_,h2,_⟩ | ⟨b,cells,T,fr,h2,rfl,h4,h5,h6⟩
  ·omega
  ·refine ⟨.pointer (some ⟨b,0+k.toNat*te.size,none⟩),?_,?_⟩
   ·simp only [Instr.indexAt,asIntOf,Sem.run_bind,Sem.run_pure,Result.andThen_ok,zA9 hu,Sem.run_ite]
    rw [if_pos ⟨h0,by omega⟩]
    simp only [zB1 hte',Result.andThen_ok,add_addr]
   ·simp only [Rel]
    exact ⟨b,_,te.size,xs,rfl,hl,Nat.le_refl _,fun _=>⟨h2,by omega⟩⟩
theorem indexAddr_array (ok:Ok C P) {t el n:Nat} {ty te:Ty} (hty:C.ty t=some ty) (hd:ty.d=.array n el) (hte:C.ty el=some te) {x v:AV} {X:Value} {kk:IntKind} {k:Int} (h0:0≤k) (h1:k<n)
  (h:addOff x (k.toNat*te.size)=some v) (r:Rel c x X):∃ V,(Instr.indexAt t X (.int kk k)).run P c.w=.ok V c.w∧Rel c v V:=by
 have hu:=array_under (ok.ty _ _ hty) hd
 have hte':=ok.ty _ _ hte
 obtain ⟨b,o,rfl,hr⟩:=addOff_rel h r
 refine ⟨_,?_,hr⟩
 simp only [Instr.indexAt,asIntOf,Sem.run_bind,Sem.run_pure,Result.andThen_ok,zA9 hu,Instr.sureAddr,Sem.run_ite]
 rw [if_pos ⟨h0,h1⟩]
 simp only [zB1 hte',Result.andThen_ok,add_addr]
theorem slice_run (ok:Ok C P) {t el:Nat} {ty:Ty} (hty:C.ty t=some ty) (hd:ty.d=.slice el) {te:Ty} (hte:C.ty el=some te) {f:Bool} {es:List AV} {X:Value} (r:Rel c (.sl f es) X) (hsz:∀ v∈es,v.cells.length=te.size) {lo hi:Option Value} {l h:Int}
  (hlo:(lo=none∧l=0)∨∃ k,lo=some (.int k l)) (hhi:(hi=none∧h=es.length)∨∃ k,hi=some (.int k h)) (h0:0≤l) (h1:l≤h) (h2:h≤es.length) :
  ∃ V,(Instr.sliceAt t X lo hi none).run P c.w=.ok V c.w∧Rel c (.sl false ((es.take h.toNat).drop l.toNat)) V:=by
 have hu:=zBr (ok.ty _ _ hty) hd
 have hte':=ok.ty _ _ hte
 simp only [Rel] at r
 obtain ⟨ad,cap,rfl,hf,⟨hp,hk⟩,r⟩:=r
 have eh:(h.toNat:Int)=h:=Int.toNat_of_nonneg (by omega)
 have el0:(l.toNat:Int)=l:=Int.toNat_of_nonneg (by omega)
 have hbounds:(Instr.sliceBounds true es.length cap lo hi none).run P c.w=.ok (l.toNat,h.toNat,cap) c.w:=by
  have b1:∀ k,(Instr.sliceBound (.int k h) cap .sliceAcap).run P c.w=.ok h.toNat c.w:=fun k=>run_sliceBound c.w k h cap _ (by omega) (by omega)
  have b2:∀ k,(Instr.sliceBound (.int k l) h.toNat .sliceB).run P c.w=.ok l.toNat c.w:=fun k=>run_sliceBound c.w k l h.toNat _ (by omega) (by omega)
  rcases hlo with ⟨rfl,rfl⟩ | ⟨k1,rfl⟩<;>rcases hhi with ⟨rfl,rfl⟩ | ⟨k2,rfl⟩
  ·simp [Instr.sliceBounds]
  ·simp [Instr.sliceBounds,b1]
  ·have b3:∀ k,(Instr.sliceBound (.int k l) es.length .sliceB).run P c.w=.ok l.toNat c.w:=fun k=>run_sliceBound c.w k l es.length _ (by omega) (by omega)
   simp [Instr.sliceBounds,b3]
  ·simp [Instr.sliceBounds,b1,b2]
 have hlen:((es.take h.toNat).drop l.toNat).length=h.toNat-l.toNat:=by simp;omega
 refine ⟨.slice (if cap=l.toNat then ad else ad.map (·.add (l.toNat*te.size))) (h.toNat-l.toNat) (cap-l.toNat),?_,?_⟩
 ·simp only [Instr.sliceAt,Sem.run_bind,zA9 hu,Result.andThen_ok,Instr.slice,hbounds,zB1 hte',Sem.run_pure]
 ·simp only [Rel,hlen]
  refine ⟨_,cap-l.toNat,rfl,⟨by simp,by omega⟩,⟨ltL_of fun v hv=>ltL_mem hp v (List.mem_of_mem_take (List.mem_of_mem_drop hv)),fun v hv=>hk v (List.mem_of_mem_take (List.mem_of_mem_drop hv))⟩,?_⟩
  by_cases hemp:(es.take h.toNat).drop l.toNat=[]
  ·exact .inl hemp
  ·rcases r with rfl | ⟨b,o,sz,ys,rfl,hb,hno,hr,hss,hlies⟩
   ·simp at hemp
   ·right
    have hlen':=hr.length
    have hne:¬ cap=l.toNat:=by
     intro he
     apply hemp
     apply List.length_eq_zero_iff.1
     rw [hlen];omega
    have hl0:0<ys.length:=by
     rcases Nat.eq_zero_or_pos ys.length with h0' | h0'
     ·exfalso;apply hemp;apply List.length_eq_zero_iff.1;rw [hlen];omega
     ·exact h0'
    have hszz:sz=te.size:=by
     have hlt:0<es.length:=by omega
     obtain ⟨y,hy,hyr⟩:=hr.get (List.getElem?_eq_getElem hlt)
     have h1:=hss y (List.mem_of_getElem? hy)
     have h2:=known_size (hk _ (List.getElem_mem hlt)) hyr
     have h3:=hsz _ (List.getElem_mem hlt)
     omega
    subst hszz
    rw [if_neg hne]
    refine ⟨b,o+l.toNat*te.size,te.size,(ys.take h.toNat).drop l.toNat,by simp [add_addr],hb,hno,(hr.take' _).drop' _,fun y hy=>hss y (List.mem_of_mem_take (List.mem_of_mem_drop hy)),fun k hk'=>?_⟩
    have hss':∀ y∈(ys.take h.toNat).drop l.toNat,y.cells.size=te.size:=fun y hy=>hss y (List.mem_of_mem_take (List.mem_of_mem_drop hy))
    rw [zAr hss'] at hk'
    have hlen2:((ys.take h.toNat).drop l.toNat).length=h.toNat-l.toNat:=by simp;omega
    rw [hlen2] at hk'
    have hsplit:flat ys=flat (ys.take l.toNat)++(flat ((ys.take h.toNat).drop l.toNat)++flat (ys.drop h.toNat)):=by
     rw [← zB8,← zB8]
     congr 1
     have e1:ys.take l.toNat=(ys.take h.toNat).take l.toNat:=by rw [List.take_take];congr 1;omega
     rw [e1,← List.append_assoc,List.take_append_drop,List.take_append_drop]
    have hA:(flat (ys.take l.toNat)).length=l.toNat*te.size:=by
     rw [zAr fun y hy=>hss y (List.mem_of_mem_take hy)]
     rw [List.length_take,Nat.min_eq_left (by omega)]
    have hM:(flat ((ys.take h.toNat).drop l.toNat)).length=(h.toNat-l.toNat)*te.size:=by rw [zAr hss',hlen2]
    rw [Nat.add_assoc,hlies _ (by rw [hsplit,List.length_append,List.length_append,hA,hM];omega),hsplit,List.getElem?_append_right (by omega),hA,Nat.add_sub_cancel_left,List.getElem?_append_left (by omega)]
theorem slice_win (ok:Ok C P) {t el:Nat} {ty:Ty} (hty:C.ty t=some ty) (hd:ty.d=.slice el) {te:Ty} (hte:C.ty el=some te) {l n:Nat} {X:Value} (r:Rel c (.gsl l n) X) {k:IntKind} {i:Int} (h0:0≤i) (h1:i.toNat<n) :
  ∃ V,(Instr.sliceAt t X (some (.int k i)) none none).run P c.w=.ok V c.w∧Rel c (.wsl l n i.toNat (i.toNat*te.size)) V:=by
 have hu:=zBr (ok.ty _ _ hty) hd
 have hte':=ok.ty _ _ hte
 have b3:(Instr.sliceBound (.int k i) n .sliceB).run P c.w=.ok i.toNat c.w:=run_sliceBound c.w k i n _ (by omega) (by omega)
 simp only [Rel] at r
 obtain ⟨ad,cap,sz,xs,rfl,hx,⟨hn,hc,ha⟩,r⟩:=r
 have hbounds:(Instr.sliceBounds true n cap (some (.int k i)) none none).run P c.w=.ok (i.toNat,n,cap) c.w:=by simp [Instr.sliceBounds,b3]
 rcases ha with rfl | ⟨b,rfl⟩
 ·omega
 refine ⟨.slice (if cap=i.toNat then some ⟨b,0,none⟩ else (some ⟨b,0,none⟩:Option Addr).map (·.add (i.toNat*te.size))) (n-i.toNat) (cap-i.toNat),?_,?_⟩
 ·simp only [Instr.sliceAt,Sem.run_bind,zA9 hu,Result.andThen_ok,Instr.slice,hbounds,zB1 hte',Sem.run_pure]
 ·simp only [Rel]
  refine ⟨b,cap-i.toNat,sz,xs,?_,hx,⟨h1,hn⟩,fun e=>?_⟩
  ·rw [if_neg (by omega)];simp [add_addr]
  ·rcases r e with ⟨_,h2,_⟩ | ⟨b',cells,T,fr,h2,h3,h4,_⟩
   ·omega
   ·cases h3;exact ⟨h2,by omega⟩
end
end Go.Ab
