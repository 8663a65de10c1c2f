/- Each operation of the abstract evaluator is one of the model: new variables, structs, literals, addresses. -/
import Derived.Test.YtjhnlfgleicnjaaGreatA9
namespace Go.Ab
set_option linter.unusedSimpArgs false
set_option linter.unusedVariables false
section
variable {C:Cfg} {P:Program} {B base:Nat} {F:FI} {c:Cx} {e:Env} {a:Act}
theorem new_get {o:Obj} {x:AO}:(c.new o x).w.heap[c.w.heap.size]? = some o:=by
 simp only [Cx.new];exact Array.getElem?_push_size
theorem new_box (hs:Sim P B c) (hb:HB base c.H) (hB:B≤c.w.heap.size) {T:TypeId} {v:AV} {y:Value} (hv:Rel c v y) (hk:known v=true) (hc:P.cellsOf T=y.cells.size) :
  AppOk P B base c ((newVar T y >>= fun ad=>pure (Value.pointer (some ad)):Sem Value).run P c.w) (.ptr c.H.length 0) (c.H++[.box v]):=by
 have tr:Tr base c (c.new (.cells y.cells T (0,0)) (.box v)):=new_tr hs _ _
 refine ⟨.pointer (some ⟨c.w.heap.size,0,none⟩),_,(c.new (.cells y.cells T (0,0)) (.box v)).ρ,by simp only [newVar,newRow,Sem.run_bind,run_newObj,Result.andThen_ok,Sem.run_pure];try rfl,?_,?_,tr,new_hb hb (Rel.lt _ _ hv)⟩
 ·show Rel (c.new (.cells y.cells T (0,0)) (.box v)) _ _
  simp only [Rel]
  exact ⟨c.w.heap.size,by simp [Cx.new],⟨.box v,by simp [Cx.new],rfl⟩,rfl⟩
 ·exact new_sim hs hB ⟨y,T,new_get,Rel.ext tr.ext _ _ hv,hc,hk⟩
theorem cellsOf_ty {t:TypeId} {ty:Ty} (h:tyOf P t=some ty):P.cellsOf t=ty.size:=by
 obtain ⟨i,u,hi,hu,hd,hs,_⟩:=zBq h
 simp [Program.cellsOf,hi,hs]
theorem elemOk_known {sz:Nat} {q:Bool} {v:AV} (h:elemOk sz q v=true):v.cells.length=sz∧known v=true :=
 zB6 (q:=q) (es:=[v]) (by simp [zB9,h]) v (by simp)
theorem known_size {v:AV} {y:Value} (hk:known v=true) (r:Rel c v y):y.cells.size=v.cells.length:=by
 have:=(zBe hk r).length;simp at this;omega
theorem fold_set (off:Nat):∀ (l:List Value) (k:Nat) (cs:List Value),off+k+l.length≤cs.length →
  ((l.zipIdx k).foldl (fun (cs:Array Value) (x:Value×Nat)=>cs.setIfInBounds (off+x.2) x.1) cs.toArray).toList=cs.take (off+k)++l++cs.drop (off+k+l.length)
 | [],k,cs,h=>by simp
 | v::l,k,cs,h=>by
  simp only [List.length_cons] at h
  simp only [List.zipIdx_cons,List.foldl_cons,List.setIfInBounds_toArray]
  rw [fold_set off l (k+1) (cs.set (off+k) v) (by simp;omega)]
  have hlt:off+k<cs.length:=by omega
  rw [← Nat.add_assoc,List.take_set,List.take_succ_eq_append_getElem hlt,List.set_append_right _ _ (by simp;omega)]
  simp only [List.length_take,List.drop_set]
  rw [show off+k-min (off+k) cs.length=0 by omega]
  simp only [List.set_cons_zero,List.append_assoc,List.cons_append,List.nil_append,List.length_cons]
  rw [if_pos (by omega),show off+k+1+l.length=off+k+(l.length+1) by omega]
theorem fill_run {place place':Nat→Option (Nat×Nat)} (hpl:∀ i p,place i=some p→place' i=some p):∀ (parts:List (Nat×AV)) (vals:List (Nat×Value)) (cs cs':List AV) (ys:List Value),fillA place cs parts=some cs'→RelL c cs ys →
  vals.map (·.1)=parts.map (·.1)→RelL c (parts.map (·.2)) (vals.map (·.2))→∃ zs,Instr.fill place' ys.toArray vals=some zs.toArray∧RelL c cs' zs∧(zAc cs=true→zAc cs'=true)∧cs'.length=cs.length
 | [],vals,cs,cs',ys,h,hr,hm,hv=>by
  simp only [fillA,Option.some.injEq] at h;subst h
  have:vals=[]:=by simpa using hm
  subst this
  exact ⟨ys,by simp [Instr.fill],hr,id,rfl⟩
 | (i,v)::parts,[],cs,cs',ys,h,hr,hm,hv=>by simp at hm
 | (i,v)::parts,(i',y)::vals,cs,cs',ys,h,hr,hm,hv=>by
  simp only [List.map_cons,List.cons.injEq] at hm
  obtain ⟨rfl,hm⟩:=hm
  simp only [List.map_cons,RelL] at hv
  obtain ⟨_,_,heq,hvy,hv⟩:=hv
  simp only [List.cons.injEq] at heq
  obtain ⟨rfl,rfl⟩:=heq
  simp only [fillA] at h
  split at h
  ·cases h
  ·rename_i off size hp
   split at h
   ·rename_i hc
    simp only [Bool.and_eq_true,beq_iff_eq,decide_eq_true_eq] at hc
    obtain ⟨hsc,hlen,hle⟩:=hc
    have hsz:=known_size (c:=c) hsc hvy
    have hl:=hr.length
    have hcr:=zBe (x:=v) hsc hvy
    have hspl:=RelL.splice off hr hcr
    obtain ⟨zs,h1,h2,h3,h4⟩:=fill_run hpl parts vals _ cs' _ h hspl hm hv
    refine ⟨zs,?_,h2,fun hq=>h3 ?_,?_⟩
    ·simp only [Instr.fill,hpl _ _ hp]
     rw [if_neg (by simp;omega)]
     rw [← h1]
     congr 1
     apply Array.ext'
     have:=fold_set off y.cells.toList 0 ys (by simp;omega)
     simp only [Nat.add_zero] at this
     rw [← this,← Array.foldl_toList,Array.toList_zipIdx]
    ·simp only [splice,allScalar_append,Bool.and_eq_true]
     exact ⟨⟨allScalar_take hq _,hsc⟩,allScalar_drop hq _⟩
    ·rw [h4]
     have:=hspl.length
     simp only [splice,List.length_append,List.length_take,List.length_drop] at this ⊢
     omega
   ·cases h
end
end Go.Ab
