/- Each operation of the abstract evaluator is one of the model: what writes. -/
import Derived.Test.YtjhnlfgleicnjaaGreatA7
import Derived.Laws.Rows
namespace Go.Ab
set_option linter.unusedSimpArgs false
set_option linter.unusedVariables false
section
variable {C:Cfg} {P:Program} {B base:Nat} {F:FI} {c:Cx} {e:Env} {a:Act}
theorem setCell_sys (w:World) (a:Addr) (v:Value):SysEq w (w.setCell a v):=⟨rfl,rfl,rfl⟩
theorem run_storeCells (b o:Nat) (T:TypeId):∀ (vs:List Value) (i:Nat) (w:World) (l:List Value),w.heap[b]? = some (.cells l.toArray T (0,0))→o+i+vs.length≤l.length→(∀ v∈vs,v.oneCell'=true) →
  ∃ w',(storeCells ⟨b,o,none⟩ vs i).run P w=.ok () w'∧(w'.heap.size=w.heap.size∧SysEq w w')∧(∀ d,d≠b→w'.heap[d]? = w.heap[d]?) ∧
   w'.heap[b]? = some (.cells (l.take (o+i)++vs++l.drop (o+i+vs.length)).toArray T (0,0))
 | [],i,w,l,h,hl,_=>⟨w,by simp [storeCells],⟨rfl,rfl,rfl,rfl⟩,fun _ _=>rfl,by simpa using h⟩
 | v::vs,i,w,l,h,hl,hv=>by
  simp only [List.length_cons] at hl
  have hlt:o+i<l.length:=by omega
  have hcell:w.cell? ⟨b,o+i,none⟩=some l[o+i]:=by rw [cell_of_cells h];simp [hlt]
  have hfr:w.frozen? ⟨b,o+i,none⟩=false:=frozen_of_row w b (o+i) _ T h
  have hset:(w.setCell ⟨b,o+i,none⟩ v).heap[b]? = some (.cells (l.set (o+i) v).toArray T (0,0)):=by
   rw [heap_setCell_same w b (o+i) _ T v h];simp
  obtain ⟨w',h1,h2,h3,h4⟩:=run_storeCells b o T vs (i+1) (w.setCell ⟨b,o+i,none⟩ v) (l.set (o+i) v) hset (by simp;omega) (fun x hx=>hv x (by simp [hx]))
  refine ⟨w',?_,?_,?_,?_⟩
  ·simp only [storeCells,add_addr,Sem.run_bind,run_store P w _ v .plain (hv v (by simp)),hcell,hfr,Bool.false_eq_true,if_false,Result.andThen_ok]
   exact h1
  ·exact ⟨by rw [h2.1];simp [World.setCell],(setCell_sys w _ v).trans h2.2⟩
  ·intro d hd
   rw [h3 d hd,heap_setCell_other w ⟨b,o+i,none⟩ d v hd]
  ·rw [h4]
   congr 2
   rw [← Nat.add_assoc,List.take_set,List.take_succ_eq_append_getElem hlt,List.set_append_right _ _ (by simp;omega)]
   simp only [List.length_take,List.drop_set]
   rw [show o+i-min (o+i) l.length=0 by omega]
   simp only [List.set_cons_zero,List.append_assoc,List.cons_append,List.nil_append,List.length_cons]
   rw [if_pos (by omega)]
   rw [show o+i+1+vs.length=o+i+(vs.length+1) by omega]
theorem allScalar_one {l:List AV} {ys:List Value} (h:zAc l=true) (r:RelL c l ys):∀ y∈ys,y.oneCell'=true:=by
 intro y hy
 obtain ⟨k,hk⟩:=List.getElem?_of_mem hy
 have hlt:k<l.length:=by rw [r.length];exact (List.getElem?_eq_some_iff.1 hk).1
 obtain ⟨z,hz,hr⟩:=r.get (List.getElem?_eq_getElem hlt)
 rw [hk] at hz;cases hz
 exact (scalar_cells (allScalar_get h _ (List.getElem_mem hlt)) hr).2.2
theorem allScalar_append {l m:List AV}:zAc (l++m)=(zAc l&&zAc m):=by
 induction l with
 | nil=>simp [zAc]
 | cons x l ih=>simp [zAc,ih,Bool.and_assoc]
theorem allScalar_take {l:List AV} (h:zAc l=true) (k:Nat):zAc (l.take k)=true :=
 allScalar_of fun v hv=>allScalar_get h v (List.mem_of_mem_take hv)
theorem allScalar_drop {l:List AV} (h:zAc l=true) (k:Nat):zAc (l.drop k)=true :=
 allScalar_of fun v hv=>allScalar_get h v (List.mem_of_mem_drop hv)
theorem write_val {v new v':AV} {off:Nat} {ty:Ty} {y Y:Value} (h:writePart v off new ty=some v') (hk:known v=true) (hr:Rel c v y) (hn:Rel c new Y) :
  ∃ y',Rel c v' y'∧known v'=true∧y'.cells.toList=y.cells.toList.take off++Y.cells.toList++y.cells.toList.drop (off+Y.cells.toList.length)∧Y.cells.size=ty.size∧off+ty.size≤y.cells.size ∧
   (∀ z∈Y.cells.toList,z.oneCell'=true)∧y'.cells.size=y.cells.size:=by
 unfold writePart at h
 split at h
 ·rename_i hc
  simp only [Bool.and_eq_true,beq_iff_eq,decide_eq_true_eq] at hc
  obtain ⟨hsc,hlen,hoff⟩:=hc
  cases h
  have hcy:=zBe hk hr
  have hcn:=zBe (x:=new) hsc hn
  have l1:=hcy.length;have l2:=hcn.length
  simp only [Array.length_toList] at l1 l2
  have hspl:=RelL.splice off hcy hcn
  have hks:zAc (splice v.cells off new.cells)=true:=by
   simp only [splice,allScalar_append,Bool.and_eq_true]
   exact ⟨⟨allScalar_take hk _,hsc⟩,allScalar_drop hk _⟩
  have hsz:(y.cells.toList.take off++Y.cells.toList++y.cells.toList.drop (off+Y.cells.toList.length)).length=y.cells.size:=by
   simp;omega
  by_cases ha:∃ cs,v=.agg cs
  ·obtain ⟨cs,rfl⟩:=ha
   refine ⟨.agg (y.cells.toList.take off++Y.cells.toList++y.cells.toList.drop (off+Y.cells.toList.length)).toArray,?_,hks,by simp [Value.cells],by omega,by omega,allScalar_one hsc hcn,?_⟩
   ·simp only [AV.withCells,Rel];exact ⟨_,rfl,by simpa using hspl⟩
   ·simpa [Value.cells] using hsz
  ·have hsv:=known_scalar hk fun cs e=>ha ⟨cs,e⟩
   have hcells:=scalar_cells hsv hr
   have hv1:v.cells.length=1:=by rw [hcells.2.1];rfl
   have hw:∀ x,v.withCells [x]=x:=by
    intro x;cases v<;>first | rfl | exact absurd ⟨_,rfl⟩ ha
   have hl1:(splice v.cells off new.cells).length=1:=by rw [hspl.length,hsz,← l1,hv1]
   match hq:splice v.cells off new.cells,hl1 with
   | [x],_ =>
    rw [hw]
    rw [hq] at hspl hks
    simp only [RelL] at hspl
    obtain ⟨z,s,hz,hxz,rfl⟩:=hspl
    have hxs:x.scalar=true:=allScalar_get hks x (by simp)
    have:=scalar_cells hxs hxz
    refine ⟨z,hxz,?_,by rw [this.1,hz],by omega,by omega,allScalar_one hsc hcn,?_⟩
    ·simp only [known,this.2.1];exact hks
    ·rw [this.1,← hsz,hz];rfl
 ·cases h
theorem flat_splice {ys:List Value} {sz i off:Nat} {y y':Value} {zs rest:List Value} (hs:∀ y∈ys,y.cells.size=sz) (hi:ys[i]? = some y) (ho:off+zs.length≤sz)
  (hy':y'.cells.toList=y.cells.toList.take off++zs++y.cells.toList.drop (off+zs.length)) :
  (flat ys++rest).take (i*sz+off)++zs++(flat ys++rest).drop (i*sz+off+zs.length)=flat (ys.set i y')++rest:=by
 obtain ⟨hlt,hget⟩:=List.getElem?_eq_some_iff.1 hi
 have e1:ys=ys.take i++y::ys.drop (i+1):=by
  rw [← hget,List.getElem_cons_drop,List.take_append_drop]
 have e2:ys.set i y'=ys.take i++y'::ys.drop (i+1):=by rw [List.set_eq_take_append_cons_drop];simp [hlt]
 have hA:(flat (ys.take i)).length=i*sz:=by
  rw [zAr (sz:=sz) fun y hy=>hs y (List.mem_of_mem_take hy)];rw [List.length_take,Nat.min_eq_left (by omega)]
 have hY:y.cells.toList.length=sz:=by simpa using hs y (List.mem_of_getElem? hi)
 have hf:flat ys=flat (ys.take i)++(y.cells.toList++flat (ys.drop (i+1))):=by
  conv=>lhs;rw [e1]
  simp [flat]
 have hf':flat (ys.set i y')=flat (ys.take i)++(y'.cells.toList++flat (ys.drop (i+1))):=by
  rw [e2];simp [flat]
 rw [hf,hf',hy',← hA]
 simp only [List.append_assoc]
 have h1:∀ (k:Nat) (L:List Value),((flat (ys.take i))++L).take ((flat (ys.take i)).length+k)=flat (ys.take i)++L.take k:=by
  intro k L;rw [List.take_append,List.take_of_length_le (by omega)];simp
 have h2:∀ (k:Nat) (L:List Value),((flat (ys.take i))++L).drop ((flat (ys.take i)).length+k)=L.drop k:=by
  intro k L;rw [List.drop_append];simp
 rw [h1,Nat.add_assoc,h2,List.take_append_of_le_length (by omega),List.drop_append_of_le_length (by omega)]
 simp only [List.append_assoc]
theorem store_rel {w w':World} {b:Nat} {c:Cx} (hw:c.w=w) {l:List Value} {T:TypeId} {l':List Value} (h:w.heap[b]? = some (.cells l.toArray T (0,0))) (h1:w'.heap.size=w.heap.size∧SysEq w w') (h2:∀ d,d≠b→w'.heap[d]? = w.heap[d]?)
  (h3:w'.heap[b]? = some (.cells l'.toArray T (0,0))) (hl:l'.length=l.length):Wr c b w' where
 sys:=by rw [hw];exact h1.2
 size:=by rw [hw];exact h1.1
 others d hd:=by rw [hw];exact h2 d hd
 cells cs T' fr hc:=by
  rw [hw,h] at hc;cases hc
  exact ⟨_,_,h3,by simpa using hl⟩
theorem cellsLt {N:Nat} {v:AV}:v.lt N=true↔ltL N v.cells=true:=by
 cases v<;>simp [AV.cells,AV.lt,ltL]
theorem ltL_append {N:Nat} {l m:List AV}:ltL N (l++m)=(ltL N l&&ltL N m):=by
 induction l with
 | nil=>simp [ltL]
 | cons x l ih=>simp [ltL,ih,Bool.and_assoc]
theorem ltL_mem {N:Nat}:∀ {l:List AV},ltL N l=true→∀ v∈l,v.lt N=true
 | x::l,h,v,hv=>by
  simp only [ltL,Bool.and_eq_true] at h
  rcases List.mem_cons.1 hv with rfl | hv
  ·exact h.1
  ·exact ltL_mem h.2 v hv
theorem ltL_of {N:Nat}:∀ {l:List AV},(∀ v∈l,v.lt N=true)→ltL N l=true
 | [],_=>rfl
 | x::l,h=>by simp only [ltL,Bool.and_eq_true];exact ⟨h x (by simp),ltL_of fun v hv=>h v (by simp [hv])⟩
theorem splice_lt {N off:Nat} {l m:List AV} (hl:ltL N l=true) (hm:ltL N m=true):ltL N (splice l off m)=true:=by
 simp only [splice,ltL_append,Bool.and_eq_true]
 exact ⟨⟨ltL_of fun v hv=>ltL_mem hl v (List.mem_of_mem_take hv),hm⟩,ltL_of fun v hv=>ltL_mem hl v (List.mem_of_mem_drop hv)⟩
theorem write_lt {N:Nat} {v new v':AV} {off:Nat} {ty:Ty} (h:writePart v off new ty=some v') (hv:v.lt N=true) (hn:new.lt N=true):v'.lt N=true:=by
 unfold writePart at h
 split at h
 ·cases h
  have:=splice_lt (off:=off) (cellsLt.1 hv) (cellsLt.1 hn)
  cases v<;>simp only [AV.withCells]<;>first
   | (simp only [AV.lt];exact this)
   | (split;(focus (rename_i x hx;rw [hx] at this;simpa [ltL] using this));exact hv)
 ·cases h
theorem run_storeVar {t:TypeId} {ty:Ty} (hty:tyOf P t=some ty) {Y:Value} (hY:Y.cells.size=ty.size) (ad:Addr) (w:World):(storeVar t ad Y).run P w=(storeCells ad Y.cells.toList).run P w:=by
 simp only [storeVar,Sem.run_bind,zB1 hty,Result.andThen_ok,ne_eq,hY,not_true_eq_false,Sem.run_ite,if_false]
theorem evStore_run (hs:Sim P B c) (hb:HB base c.H) {t:TypeId} {ty:Ty} (hty:tyOf P t=some ty) {x v:AV} {X V:Value} {H':Heap} (h:evStore base c.H ty x v=some H') (hx:Rel c x X) (hv:Rel c v V) :
  ∃ w',(Instr.storeAt t X V).run P c.w=.ok () w'∧Sim P B ⟨w',c.ρ,H'⟩∧Tr base c ⟨w',c.ρ,H'⟩∧HB base H':=by
 unfold evStore at h
 split at h
 ·rename_i l off
  split at h
  ·rename_i u hu
   split at h
   ·rename_i u' hu'
    unfold zB0 at h
    split at h
    ·rename_i hlt
     cases h
     simp only [Bool.or_eq_true,decide_eq_true_eq] at hlt
     simp only [Rel] at hx
     obtain ⟨b,hbl,_,rfl⟩:=hx
     obtain ⟨o,ho,hr⟩:=hs.obj l b hbl
     rw [hu] at ho;cases ho
     obtain ⟨y,T,h1,h2,h3,h4⟩:=hr
     obtain ⟨y',g1,g2,g3,g4,g5,g6,g7⟩:=write_val hu' h4 h2 hv
     obtain ⟨w',r1,r2,r3,r4⟩:=run_storeCells (P:=P) b off T V.cells.toList 0 c.w y.cells.toList (by simpa using h1) (by simp;omega) g6
     rw [Nat.add_zero,← g3] at r4
     have hW:Wr c b w':=store_rel (l:=y.cells.toList) (l':=y'.cells.toList) rfl (by simpa using h1) r2 r3 r4 (by simpa using g7)
     have hk:Kind (.box u) (.box u'):=trivial
     have hvl:v.lt c.H.length=true:=Rel.lt _ _ hv
     refine ⟨w',?_,wr_sim hs hbl hu hW hk ⟨y',T,by simpa [Cx.wr] using r4,Rel.ext (wr_ext hbl hu hW hk) _ _ g1,by rw [h3,g7],g2⟩,wr_tr hbl hu hW hk ?_,set_hb hb hu ?_ ?_⟩
     ·simp only [Instr.storeAt,Instr.sureAddr,Sem.run_bind,Sem.run_pure,Result.andThen_ok,run_storeVar hty g4]
      exact r1
     ·intro N hlb hlN huN
      rcases hlt with hlt | hlt
      ·exact write_lt hu' huN (zAu (by omega) v hlt)
      ·omega
     ·intro hlb
      rcases hlt with hlt | hlt
      ·exact write_lt hu' (hb.old l _ hlb hu) (zAu (by omega) v hlt)
      ·omega
     ·exact write_lt hu' (hb.all l _ hu) hvl
    ·cases h
   ·cases h
  ·cases h
 ·rename_i l n i off
  split at h
  ·rename_i sz xs hu
   split at h
   ·rename_i hn
    simp only [Bool.and_eq_true,decide_eq_true_eq] at hn
    split at h
    ·rename_i u hi
     split at h
     ·rename_i u' hu'
      cases h
      simp only [Rel] at hx
      obtain ⟨b,p,sz',xs',rfl,hx1,hx2,hx3⟩:=hx
      rw [hu] at hx1;cases hx1
      obtain ⟨hbl,rfl⟩:=hx3 hn.1
      obtain ⟨o,ho,hr⟩:=hs.obj l b hbl
      rw [hu] at ho;cases ho
      obtain ⟨ys,rest,T,h1,h2,h3,h4,h5⟩:=hr
      obtain ⟨y,hy,hyr⟩:=h2.get hi
      have hyk:=h5 u (List.mem_of_getElem? hi)
      have hysz:=h3 y (List.mem_of_getElem? hy)
      have hylt:=(List.getElem?_eq_some_iff.1 hy).1
      obtain ⟨y',g1,g2,g3,g4,g5,g6,g7⟩:=write_val hu' hyk hyr hv
      have hfl:=zAr h3
      have hmul:=Nat.mul_le_mul_right sz hylt
      rw [Nat.succ_mul] at hmul
      obtain ⟨w',r1,r2,r3,r4⟩:=run_storeCells (P:=P) b (i*sz+off) T V.cells.toList 0 c.w (flat ys++rest) h1 (by simp [hfl];omega) g6
      rw [Nat.add_zero,flat_splice h3 hy (by simp;omega) g3] at r4
      have h3':∀ z∈ys.set i y',z.cells.size=sz:=by
       intro z hz
       rcases List.mem_or_eq_of_mem_set hz with hz | rfl
       ·exact h3 z hz
       ·omega
      have hW:Wr c b w':=store_rel (l:=flat ys++rest) (l':=flat (ys.set i y')++rest) rfl h1 r2 r3 r4 (by simp [hfl,zAr h3'])
      have hk:Kind (.grow sz xs) (.grow sz (xs.set i u')):=⟨rfl,by simp⟩
      have hpure:ltL 0 (xs.set i u')=true:=ltL_of fun z hz=>by
       rcases List.mem_or_eq_of_mem_set hz with hz | rfl
       ·exact ltL_mem h4 z hz
       ·exact write_lt hu' (ltL_mem h4 u (List.mem_of_getElem? hi)) hn.2
      refine ⟨w',?_,wr_sim hs hbl hu hW hk ⟨ys.set i y',rest,T,by simpa [Cx.wr] using r4,RelL.ext (wr_ext hbl hu hW hk) _ _ (h2.set g1),h3',hpure,?_⟩,wr_tr hbl hu hW hk ?_,set_hb hb hu ?_ ?_⟩
      ·simp only [Instr.storeAt,Instr.sureAddr,Sem.run_bind,Sem.run_pure,Result.andThen_ok,run_storeVar hty g4]
       exact r1
      ·intro z hz
       rcases List.mem_or_eq_of_mem_set hz with hz | rfl
       ·exact h5 z hz
       ·exact g2
      ·intro N _ _ _;exact hpure
      ·intro _;exact hpure
      ·exact hpure
     ·cases h
    ·cases h
   ·cases h
  ·cases h
 ·cases h
end
end Go.Ab
