/- Each operation of the abstract evaluator is one of the model: slices that are written out, made, copied. -/
import Derived.Test.YtjhnlfgleicnjaaGreatB1
namespace Go.Ab
set_option linter.unusedSimpArgs false
set_option linter.unusedVariables false
section
variable {C:Cfg} {P:Program} {B base:Nat} {F:FI} {c:Cx} {e:Env} {a:Act}
theorem zero_flat (Z:Value):∀ n:Nat,((List.range (n*Z.cells.size)).map fun i=>Z.cells[i%Z.cells.size]!)=flat (List.replicate n Z)
 | 0=>by simp [flat]
 | n+1=>by
  rw [Nat.succ_mul,List.range_add,List.map_append,zero_flat Z n]
  simp only [List.replicate_succ',flat,List.flatMap_append,List.flatMap_cons,List.flatMap_nil,List.append_nil,List.map_map]
  congr 1
  apply List.ext_getElem
  ·simp
  ·intro i h1 h2
   simp only [List.length_map,List.length_range] at h1
   simp [Nat.mod_eq_of_lt h1,h1,Nat.mul_comm n]
theorem RelL.replicate {v:AV} {y:Value} (h:Rel c v y):∀ n:Nat,RelL c (List.replicate n v) (List.replicate n y)
 | 0=>by simp [RelL]
 | n+1=>by simp only [List.replicate_succ,RelL];exact ⟨y,_,rfl,h,RelL.replicate h n⟩
theorem fill_slice {sz len:Nat} {q:Bool}:∀ (parts:List (Nat×AV)) (vals:List (Nat×Value)) (xs:List AV) (ys:List Value),RelL c xs ys→(∀ y∈ys,y.cells.size=sz)→xs.length=len →
  (∀ x∈parts,x.1<len∧elemOk sz q x.2=true)→vals.map (·.1)=parts.map (·.1)→RelL c (parts.map (·.2)) (vals.map (·.2)) →
  ∃ zs,Instr.fill (fun i=>some (i*sz,sz)) (flat ys).toArray vals=some (flat zs).toArray∧RelL c (setParts xs parts) zs∧(∀ y∈zs,y.cells.size=sz)
 | [],vals,xs,ys,hr,hs,_,_,hm,_=>by
  have:vals=[]:=by simpa using hm
  subst this
  exact ⟨ys,by simp [Instr.fill],hr,hs⟩
 | (i,v)::parts,[],xs,ys,_,_,_,_,hm,_=>by simp at hm
 | (i,v)::parts,(i',y)::vals,xs,ys,hr,hs,hlen,hp,hm,hv=>by
  simp only [List.map_cons,List.cons.injEq] at hm
  obtain ⟨rfl,hm⟩:=hm
  simp only [List.map_cons,RelL] at hv
  obtain ⟨_,_,heq,hvy,hv⟩:=hv
  simp only [List.cons.injEq] at heq
  obtain ⟨rfl,rfl⟩:=heq
  obtain ⟨hi,hel⟩:=hp (i',v) (by simp)
  simp only at hi hel
  obtain ⟨hcl,hkn⟩:=elemOk_known hel
  have hsz:=known_size hkn hvy
  have hl:=hr.length
  have hlt:i' < ys.length:=by omega
  have hfl:=zAr hs
  have hmul:=Nat.mul_le_mul_right sz (Nat.succ_le_of_lt hlt)
  rw [Nat.succ_mul] at hmul
  have hs':∀ z∈ys.set i' y,z.cells.size=sz:=fun z hz=>by
   rcases List.mem_or_eq_of_mem_set hz with hz | rfl
   ·exact hs z hz
   ·omega
  obtain ⟨zs,h1,h2,h3⟩:=fill_slice parts vals (xs.set i' v) (ys.set i' y) (hr.set hvy) hs' (by simp;exact hlen) (fun x hx=>hp x (by simp [hx])) hm hv
  refine ⟨zs,?_,h2,h3⟩
  simp only [Instr.fill]
  rw [if_neg (by simp [hfl];omega),← h1]
  congr 1
  apply Array.ext'
  have:=fold_set (i'*sz) y.cells.toList 0 (flat ys) (by simp [hfl];omega)
  rw [← Array.foldl_toList,Array.toList_zipIdx,this]
  have hsp:=flat_splice (rest:=[]) (off:=0) (zs:=y.cells.toList) (y':=y) hs (List.getElem?_eq_getElem hlt) (by simp;omega) (by
   have:ys[i'].cells.size=sz:=hs _ (List.getElem_mem hlt)
   simp;omega)
  simpa using hsp
theorem buildSlice_ok (ok:Ok C P) (hs:Sim P B c) (hb:HB base c.H) {t el len:Nat} {te ty:Ty} (hty:C.ty t=some ty) (hd:ty.d=.slice el) (hte:C.ty el=some te) (hz:te.zeroOk=true) (h1:len≤1024) (h2:te.size≤1024)
  {parts:List (Nat×AV)} {vals:List (Nat×Value)} (hp:∀ x∈parts,x.1<len∧elemOk te.size te.agg x.2=true∧x.2.lt 0=true) (hm:vals.map (·.1)=parts.map (·.1)) (hv:RelL c (parts.map (·.2)) (vals.map (·.2))) :
  AppOk P B base c ((Instr.buildSlice t len vals.toArray).run P c.w) (.sl true (setParts (List.replicate len te.zv) parts)) c.H:=by
 have hu:=zBr (ok.ty _ _ hty) hd
 have hte':=ok.ty _ _ hte
 obtain ⟨z,hz0,hzr,hzk,hzs,hzl⟩:=zero_rel hz
 have hzlt:te.zv.lt 0=true:=by
  cases hq:te.zv with
  | agg cs =>
   simp only [AV.lt]
   have:Rel ⟨default,fun _=>none,[]⟩ te.zv z:=hzr _
   have h0:=Rel.lt _ _ this
   rw [hq] at h0
   exact h0
  | _ =>
   have:Rel ⟨default,fun _=>none,[]⟩ te.zv z:=hzr _
   have h0:=Rel.lt _ _ this
   rw [hq] at h0
   exact h0
 obtain ⟨zs,g1,g2,g3⟩:=fill_slice (c:=c) (sz:=te.size) (len:=len) (q:=te.agg) parts vals (List.replicate len te.zv) (List.replicate len z) (RelL.replicate (hzr c) len) (fun y hy=>by rw [List.eq_of_mem_replicate hy];exact hzs) (by simp)
  (fun x hx=>⟨(hp x hx).1,(hp x hx).2.1⟩) hm hv
 have hlim:¬ (len*te.size>2^24):=by
  have:=Nat.mul_le_mul h1 h2
  have h3:(2:Nat)^24=16777216:=by decide
  omega
 have hinit:∀ q:Array Value,(if len*te.size=0 then q=#[] else q=z.cells)→(Array.range (len*te.size)).map (fun i=>q[i%q.size]!)=(flat (List.replicate len z)).toArray:=by
  intro q hq
  apply Array.ext'
  rw [← zero_flat z len,hzs]
  split at hq
  ·rename_i h0
   simp [h0]
  ·subst hq
   rw [Array.toList_map,Array.toList_range,hzs]
 have hrun:(Instr.buildSlice t len vals.toArray).run P c.w=.ok (.slice (some ⟨c.w.heap.size,0,none⟩) len len) { c.w with heap:=c.w.heap.push (.cells (flat zs).toArray el) }:=by
  simp only [Instr.buildSlice,Sem.run_bind,zA9 hu,Result.andThen_ok,zB1 hte',Sem.run_ite,hlim,if_false]
  by_cases h0:len*te.size=0
  ·simp only [h0,if_true,Sem.run_pure,Result.andThen_ok]
   have:=hinit #[] (by simp [h0])
   simp only [h0] at this
   rw [this]
   simp [g1,newRow]
  ·simp only [h0,if_false,run_zero hte' hz0,Result.andThen_ok,Sem.run_pure]
   rw [hinit z.cells (by simp [h0])]
   simp [g1,newRow]
 have tr:Tr base c (c.add (.cells (flat zs).toArray el)):=add_tr _
 have hlen:(setParts (List.replicate len te.zv) parts).length=len:=by
  have:∀ (ps:List (Nat×AV)) (xs:List AV),(setParts xs ps).length=xs.length:=by
   intro ps;induction ps with
   | nil=>intro xs;rfl
   | cons p ps ih=>intro xs;obtain ⟨i,v⟩:=p;simp [setParts,ih]
  rw [this];simp
 have hall:∀ (ps:List (Nat×AV)) (xs:List AV),(∀ x∈xs,x.lt 0=true∧known x=true)→(∀ p∈ps,p.2.lt 0=true∧known p.2=true)→∀ x∈setParts xs ps,x.lt 0=true∧known x=true:=by
  intro ps;induction ps with
  | nil=>intro xs h _;exact h
  | cons p ps ih =>
   intro xs h h'
   obtain ⟨i,v⟩:=p
   refine ih _ (fun x hx=>?_) (fun p hp=>h' p (by simp [hp]))
   rcases List.mem_or_eq_of_mem_set hx with hx | rfl
   ·exact h x hx
   ·exact h' (i,x) (by simp)
 have hgood:=hall parts (List.replicate len te.zv) (fun x hx=>by rw [List.eq_of_mem_replicate hx];exact ⟨hzlt,hzk⟩) (fun p hpp=>⟨(hp p hpp).2.2,(elemOk_known (hp p hpp).2.1).2⟩)
 refine ⟨_,_,c.ρ,hrun,?_,add_sim hs _,tr,hb⟩
 show Rel (c.add (.cells (flat zs).toArray el)) _ _
 simp only [Rel,hlen]
 refine ⟨_,len,rfl,⟨fun _=>rfl,Nat.le_refl _⟩,⟨ltL_of fun v hv=>(hgood v hv).1,fun v hv=>(hgood v hv).2⟩,.inr ⟨c.w.heap.size,0,te.size,zs,rfl,by simp [Cx.add],?_,RelL.ext tr.ext _ _ g2,g3,?_⟩⟩
 ·rintro ⟨l,hl⟩
  have:=(hs.lo l _ hl).2
  omega
 ·intro k hk
  rw [Nat.zero_add,cell_of_cells (cs:=(flat zs).toArray) (T:=el) (fr:=(0,0)) (by simp only [Cx.add];exact Array.getElem?_push_size)]
  simp
end
end Go.Ab
