/- Each operation of the abstract evaluator is one of the model: memory. -/
import Derived.Test.YtjhnlfgleicnjaaGreatA6
namespace Go.Ab
set_option linter.unusedSimpArgs false
set_option linter.unusedVariables false
section
variable {C:Cfg} {P:Program} {B base:Nat} {F:FI} {c:Cx} {e:Env} {a:Act}
theorem RelL.get {c:Cx}:∀ {l:List AV} {ys:List Value},RelL c l ys→∀ {k:Nat} {v:AV},l[k]? = some v→∃ y,ys[k]? = some y∧Rel c v y
 | [],_,_,k,v,h=>by simp at h
 | x::l,ys,r,k,v,h=>by
  simp only [RelL] at r
  obtain ⟨y,s,rfl,hy,hs⟩:=r
  cases k with
  | zero=>simp at h;subst h;exact ⟨y,by simp,hy⟩
  | succ k=>simpa using RelL.get hs (by simpa using h)
theorem RelL.drop' {c:Cx}:∀ {l:List AV} {ys:List Value} (k:Nat),RelL c l ys→RelL c (l.drop k) (ys.drop k)
 | l,ys,0,r=>by simpa using r
 | [],ys,k+1,r=>by simp only [RelL] at r;subst r;simp [RelL]
 | x::l,ys,k+1,r=>by
  simp only [RelL] at r
  obtain ⟨y,s,rfl,_,hs⟩:=r
  simpa using RelL.drop' k hs
theorem RelL.take' {c:Cx}:∀ {l:List AV} {ys:List Value} (k:Nat),RelL c l ys→RelL c (l.take k) (ys.take k)
 | l,ys,0,r=>by simp [RelL]
 | [],ys,k+1,r=>by simp only [RelL] at r;subst r;simp [RelL]
 | x::l,ys,k+1,r=>by
  simp only [RelL] at r
  obtain ⟨y,s,rfl,hy,hs⟩:=r
  simp only [List.take_succ_cons,RelL]
  exact ⟨y,_,rfl,hy,RelL.take' k hs⟩
theorem RelL.append {c:Cx}:∀ {l m:List AV} {ys zs:List Value},RelL c l ys→RelL c m zs→RelL c (l++m) (ys++zs)
 | [],_,_,_,r,r'=>by simp only [RelL] at r;subst r;simpa using r'
 | x::l,m,ys,zs,r,r'=>by
  simp only [RelL] at r
  obtain ⟨y,s,rfl,hy,hs⟩:=r
  simp only [List.cons_append,RelL]
  exact ⟨y,_,rfl,hy,hs.append r'⟩
theorem RelL.set {c:Cx}:∀ {l:List AV} {ys:List Value} {k:Nat} {v:AV} {y:Value},RelL c l ys→Rel c v y→RelL c (l.set k v) (ys.set k y)
 | [],_,_,_,_,r,_=>by simp only [RelL] at r;subst r;simp [RelL]
 | x::l,ys,k,v,y,r,h=>by
  simp only [RelL] at r
  obtain ⟨z,s,rfl,hz,hs⟩:=r
  cases k with
  | zero=>simp only [List.set_cons_zero,RelL];exact ⟨y,s,rfl,h,hs⟩
  | succ k=>simp only [List.set_cons_succ,RelL];exact ⟨z,_,rfl,hz,hs.set h⟩
theorem RelL.splice {c:Cx} {l m:List AV} {ys zs:List Value} (off:Nat) (r:RelL c l ys) (r':RelL c m zs):RelL c (splice l off m) (ys.take off++zs++ys.drop (off+zs.length)):=by
 unfold Ab.splice
 rw [r'.length]
 exact ((r.take' off).append r').append (r.drop' _)
theorem scalar_cells {x:AV} {y:Value} (hx:x.scalar=true) (r:Rel c x y):y.cells=#[y]∧x.cells=[x]∧y.oneCell'=true:=by
 cases x<;>simp only [AV.scalar] at hx<;>(try cases hx;done)<;>simp only [Rel] at r
 all_goals first
  | (subst r;exact ⟨rfl,rfl,rfl⟩)
  | (obtain ⟨_,_,_,rfl⟩:=r;exact ⟨rfl,rfl,rfl⟩)
  | (obtain ⟨_,_,_,_,rfl,_⟩:=r;exact ⟨rfl,rfl,rfl⟩)
  | (obtain ⟨_,_,_,rfl,_⟩:=r;exact ⟨rfl,rfl,rfl⟩)
  | (obtain ⟨_,_,rfl,_⟩:=r;exact ⟨rfl,rfl,rfl⟩)
  | (obtain ⟨_,rfl,_⟩:=r;exact ⟨rfl,rfl,rfl⟩)
  | (obtain ⟨_,_,_,_,_,rfl,_⟩:=r;exact ⟨rfl,rfl,rfl⟩)
theorem known_scalar {x:AV} (h:known x=true) (ha:∀ cs,x≠.agg cs):x.scalar=true:=by
 cases x<;>simp [known,AV.cells,zAc,AV.scalar] at h ⊢
 exact absurd rfl (ha _)
theorem zBe {x:AV} {y:Value} (h:known x=true) (r:Rel c x y):RelL c x.cells y.cells.toList:=by
 by_cases ha:∃ cs,x=.agg cs
 ·obtain ⟨cs,rfl⟩:=ha
  simp only [Rel] at r
  obtain ⟨a,rfl,ra⟩:=r
  exact ra
 ·have:=scalar_cells (known_scalar h fun cs e=>ha ⟨cs,e⟩) r
  rw [this.1,this.2.1]
  simp only [RelL]
  exact ⟨y,[],rfl,r,rfl⟩
theorem allScalar_get:∀ {l:List AV},zAc l=true→∀ v∈l,v.scalar=true
 | x::l,h,v,hv=>by
  simp only [zAc,Bool.and_eq_true] at h
  rcases List.mem_cons.1 hv with rfl | hv
  ·exact h.1
  ·exact allScalar_get h.2 v hv
theorem allScalar_of:∀ {l:List AV},(∀ v∈l,v.scalar=true)→zAc l=true
 | [],_=>rfl
 | x::l,h=>by simp only [zAc,Bool.and_eq_true];exact ⟨h x (by simp),allScalar_of fun v hv=>h v (by simp [hv])⟩
theorem zBq {t:TypeId} {y:Ty} (h:tyOf P t=some y):∃ i u,P.info? t=some i∧P.underlying t=some u∧y.d=tyDesc u∧y.size=i.size∧y.bytes=i.bytes∧y.zero=i.zero:=by
 unfold tyOf at h
 split at h
 ·rename_i i u hi hu
  cases h
  exact ⟨i,u,hi,hu,rfl,rfl,rfl,rfl⟩
 ·cases h
theorem run_isAgg {t:TypeId} {y:Ty} (h:tyOf P t=some y) (w:World):(isAgg t).run P w=.ok y.agg w:=by
 obtain ⟨i,u,hi,hu,hd,_⟩:=zBq h
 simp only [isAgg,Sem.run_bind,zA9 hu,Result.andThen_ok,Ty.agg,hd]
 cases u<;>rfl
theorem zB1 {t:TypeId} {y:Ty} (h:tyOf P t=some y) (w:World):(sizeOf t).run P w=.ok y.size w:=by
 obtain ⟨i,u,hi,hu,hd,hs,_⟩:=zBq h
 rw [run_sizeOf' hi,hs]
theorem run_zero {t:TypeId} {y:Ty} {z:Value} (h:tyOf P t=some y) (hz:y.zero=some z) (w:World):(zeroValue t).run P w=.ok z w:=by
 obtain ⟨i,u,hi,hu,hd,hs,_,h0⟩:=zBq h
 simp [zeroValue,typeInfo,hi,← h0,hz]
theorem zBr {t el:TypeId} {y:Ty} (h:tyOf P t=some y) (hd:y.d=.slice el):P.underlying t=some (.slice el):=by
 obtain ⟨i,u,hi,hu,hy,_⟩:=zBq h
 rw [hd] at hy
 cases u<;>simp [tyDesc] at hy
 rw [hu,hy]
theorem array_under {t el n:TypeId} {y:Ty} (h:tyOf P t=some y) (hd:y.d=.array n el):P.underlying t=some (.array n el):=by
 obtain ⟨i,u,hi,hu,hy,_⟩:=zBq h
 rw [hd] at hy
 cases u<;>simp [tyDesc] at hy
 rw [hu,hy.1,hy.2]
theorem map_under {t k el:TypeId} {y:Ty} (h:tyOf P t=some y) (hd:y.d=.map k el):P.underlying t=some (.map k el):=by
 obtain ⟨i,u,hi,hu,hy,_⟩:=zBq h
 rw [hd] at hy
 cases u<;>simp [tyDesc] at hy
 rw [hu,hy.1,hy.2]
theorem int_under {t:TypeId} {k:IntKind} {y:Ty} (h:tyOf P t=some y) (hd:y.d=.int k):P.underlying t=some (.int k):=by
 obtain ⟨i,u,hi,hu,hy,_⟩:=zBq h
 rw [hd] at hy
 cases u<;>simp [tyDesc] at hy
 rw [hu,hy]
theorem struct_under {t:TypeId} {fs:List (Nat×TypeId)} {y:Ty} (h:tyOf P t=some y) (hd:y.d=.struct fs):∃ fa:Array Field,P.underlying t=some (.struct fa)∧fs=fa.toList.map fun f=>(f.offset,f.type):=by
 obtain ⟨i,u,hi,hu,hy,_⟩:=zBq h
 rw [hd] at hy
 cases u<;>simp [tyDesc] at hy
 rename_i fa
 exact ⟨fa,hu,hy⟩
theorem zero_rel {y:Ty} (h:y.zeroOk=true):∃ z,y.zero=some z∧(∀ c,Rel c y.zv z)∧known y.zv=true∧z.cells.size=y.size∧y.zv.cells.length=y.size:=by
 cases hz:y.zero with
 | none=>simp [Ty.zeroOk,Ty.zv,hz,AV.scalar] at h
 | some z =>
  have hv:y.zv=ofConst z:=by simp [Ty.zv,hz]
  have hk:known y.zv=true:=by
   cases hq:y.zv<;>simp [Ty.zeroOk,hq,AV.scalar] at h<;>simp [known,AV.cells,zAc,AV.scalar]
   exact h.1
  have hl:y.zv.cells.length=y.size:=by
   cases hq:y.zv<;>simp [Ty.zeroOk,hq,AV.scalar] at h<;>simp [AV.cells]<;>omega
  refine ⟨z,rfl,fun c=>hv ▸ rel_const z,hk,?_,hl⟩
  have:=(zBe (c:=⟨default,fun _=>none,[]⟩) hk (hv ▸ rel_const z)).length
  simp at this
  omega
theorem cell_of_cells {w:World} {b j:Nat} {cs:Array Value} {T:TypeId} {fr:Nat×Nat} (h:w.heap[b]? = some (.cells cs T fr)):w.cell? ⟨b,j,none⟩=cs[j]? := by
 simp [World.cell?,h]
theorem add_addr (b o n:Nat):Addr.add ⟨b,o,none⟩ n=⟨b,o+n,none⟩:=by
 unfold Addr.add;split
 ·rename_i h;subst h;rfl
 ·rfl
theorem read_run {t:TypeId} {ty:Ty} (hty:tyOf P t=some ty) {cs:List AV} {ys:List Value} {b o off:Nat} {v:AV} (hr:RelL c cs ys) (hl:∀ k,k<ys.length→c.w.cell? ⟨b,o+k,none⟩=ys[k]?)
  (h:zAy cs off ty=some v):∃ V,(loadVar t ⟨b,o+off,none⟩).run P c.w=.ok V c.w∧Rel c v V:=by
 have hlen:=hr.length
 unfold zAy at h
 split at h
 ·rename_i hagg
  split at h
  ·rename_i hle
   cases h
   refine ⟨.agg ((ys.drop off).take ty.size).toArray,?_,?_⟩
   ·have:=run_loadCells_list (P:=P) (w:=c.w) ⟨b,o+off,none⟩ ((ys.drop off).take ty.size) (fun j v hj=>by
     have hj':j<((ys.drop off).take ty.size).length:=(List.getElem?_eq_some_iff.1 hj).1
     simp only [List.length_take,List.length_drop] at hj'
     rw [add_addr,Nat.add_assoc,hl (off+j) (by omega)]
     rw [List.getElem?_take_of_lt (by omega),List.getElem?_drop] at hj
     exact hj)
    have hs:((ys.drop off).take ty.size).length=ty.size:=by simp;omega
    rw [hs] at this
    simp only [loadVar,Sem.run_bind,run_isAgg hty,Result.andThen_ok,Sem.run_ite,hagg,if_true,zB1 hty,this,Sem.run_pure]
   ·simp only [Rel]
    exact ⟨_,rfl,(hr.drop' off).take' ty.size⟩
  ·cases h
 ·rename_i hagg
  obtain ⟨y,hy,hv⟩:=hr.get h
  have hk:=(List.getElem?_eq_some_iff.1 hy).1
  exact ⟨y,by simp only [loadVar,Sem.run_bind,run_isAgg hty,Result.andThen_ok,Sem.run_ite,hagg,Bool.false_eq_true,if_false,run_load,hl off hk,hy],hv⟩
theorem flat_get:∀ {ys:List Value} {sz:Nat},(∀ y∈ys,y.cells.size=sz)→∀ {i j:Nat} {y:Value},ys[i]? = some y→j<sz→(flat ys)[i*sz+j]? = y.cells[j]?
 | [],_,_,i,j,y,h,_=>by simp at h
 | x::ys,sz,hs,i,j,y,h,hj=>by
  have hx:=hs x (by simp)
  cases i with
  | zero =>
   simp at h;subst h
   simp only [flat,List.flatMap_cons,Nat.zero_mul,Nat.zero_add]
   rw [List.getElem?_append_left (by simpa [hx] using hj)]
   simp
  | succ i =>
   have ih:=flat_get (ys:=ys) (sz:=sz) (fun y hy=>hs y (by simp [hy])) (i:=i) (j:=j) (y:=y) (by simpa using h) hj
   simp only [flat,List.flatMap_cons] at ih ⊢
   rw [List.getElem?_append_right (by simp [hx,Nat.succ_mul];omega)]
   simp only [Array.length_toList,hx]
   rw [show (i+1)*sz+j-sz=i*sz+j by rw [Nat.succ_mul];omega]
   exact ih
theorem zAr:∀ {ys:List Value} {sz:Nat},(∀ y∈ys,y.cells.size=sz)→(flat ys).length=ys.length*sz
 | [],_,_=>by simp [flat]
 | x::ys,sz,hs=>by
  have ih:=zAr (ys:=ys) (sz:=sz) fun y hy=>hs y (by simp [hy])
  simp only [flat,List.flatMap_cons,List.length_append,Array.length_toList,hs x (by simp),List.length_cons,Nat.succ_mul] at ih ⊢
  omega
theorem zB8 (ys zs:List Value):flat (ys++zs)=flat ys++flat zs:=by simp [flat]
theorem evLoad_run (hs:Sim P B c) {t:TypeId} {ty:Ty} (hty:tyOf P t=some ty) {x v:AV} {X:Value} (h:evLoad c.H ty x=some v) (hx:Rel c x X):∃ V,(Instr.loadAt t X).run P c.w=.ok V c.w∧Rel c v V:=by
 unfold evLoad at h
 split at h
 ·rename_i l off
  split at h
  ·rename_i u hu
   simp only [Rel] at hx
   obtain ⟨b,hb,_,rfl⟩:=hx
   obtain ⟨o,ho,hr⟩:=hs.obj l b hb
   rw [hu] at ho;cases ho
   obtain ⟨y,T,h1,h2,h3,h4⟩:=hr
   obtain ⟨V,h5,h6⟩:=read_run (b:=b) (o:=0) (off:=off) hty (zBe h4 h2) (fun k hk=>by rw [Nat.zero_add,cell_of_cells h1];simp) h
   exact ⟨V,by simpa [Instr.loadAt,Instr.sureAddr] using h5,h6⟩
  ·cases h
 ·rename_i l n i off
  split at h
  ·rename_i sz xs hu
   split at h
   ·rename_i hn
    split at h
    ·rename_i u hi
     simp only [Rel] at hx
     obtain ⟨b,p,sz',xs',rfl,hx1,hx2,hx3⟩:=hx
     rw [hu] at hx1;cases hx1
     obtain ⟨hb,rfl⟩:=hx3 hn
     obtain ⟨o,ho,hr⟩:=hs.obj l b hb
     rw [hu] at ho;cases ho
     obtain ⟨ys,rest,T,h1,h2,h3,h4,h5⟩:=hr
     obtain ⟨y,hy,hyr⟩:=h2.get hi
     have hyk:=h5 u (List.mem_of_getElem? hi)
     have hysz:=h3 y (List.mem_of_getElem? hy)
     have hylt:=(List.getElem?_eq_some_iff.1 hy).1
     have hfl:=zAr h3
     obtain ⟨V,h6,h7⟩:=read_run (b:=b) (o:=i*sz) (off:=off) hty (zBe hyk hyr) (fun k hk=>by
      simp only [Array.length_toList] at hk
      rw [hysz] at hk
      have hlt:i*sz+k<(flat ys).length:=by
       rw [hfl]
       have:=Nat.mul_le_mul_right sz hylt
       rw [Nat.succ_mul] at this;omega
      rw [cell_of_cells h1,List.getElem?_toArray,List.getElem?_append_left hlt,flat_get h3 hy hk]
      simp) h
     exact ⟨V,by simpa [Instr.loadAt,Instr.sureAddr] using h6,h7⟩
    ·cases h
   ·cases h
  ·cases h
 ·rename_i u off
  simp only [Rel] at hx
  obtain ⟨hp,b,o,z,rfl,hb,ho,hz,hl⟩:=hx
  obtain ⟨V,h5,h6⟩:=read_run (b:=b) (o:=o) (off:=off) hty (zBe hp.2 hz) (fun k hk=>hl k (by simpa using hk)) h
  exact ⟨V,by simpa [Instr.loadAt,Instr.sureAddr] using h5,h6⟩
 ·cases h
end
end Go.Ab
