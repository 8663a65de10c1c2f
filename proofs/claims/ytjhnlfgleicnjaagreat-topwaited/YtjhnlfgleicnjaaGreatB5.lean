/- Each operation of the abstract evaluator is one of the model: the operations, one by one. -/
import Derived.Test.YtjhnlfgleicnjaaGreatB4
namespace Go.Ab
set_option linter.unusedSimpArgs false
set_option linter.unusedVariables false
section
variable {C:Cfg} {P:Program} {B base:Nat} {F:FI} {c:Cx} {e:Env} {a:Act}
theorem app_op {r:Result Value} {v:AV} {H':Heap} {r':Result Next} (h:AppOk P B base c r v H') (hr:∀ V w',r=.ok V w'→r'=.ok (.value V) w'):OpOk P B base c r' v H':=by
 obtain ⟨V,w',ρ',h1,h2,h3,h4,h5⟩:=h
 exact ⟨_,V,w',ρ',hr V w' h1,.inl rfl,h2,h3,h4,h5⟩
theorem wrap64_small {n:Int} (h0:0≤n) (h1:n≤1048576):IntKind.i64.wrap n=n:=by
 have e1:(2:Int)^IntKind.i64.bits=18446744073709551616:=by decide
 have e2:(2:Int)^(IntKind.i64.bits-1)=9223372036854775808:=by decide
 have e3:IntKind.i64.signed=true:=rfl
 simp only [IntKind.wrap,e1,e2,e3,Bool.true_and]
 have:n%18446744073709551616=n:=Int.emod_eq_of_lt h0 (by omega)
 rw [this]
 rw [if_neg (by simp;omega)]
theorem makeSlice_ok (ok:Ok C P) (hs:Sim P B c) (hb:HB base c.H) (hB:B≤c.w.heap.size) {t el:TypeId} {te ty:Ty} (hty:C.ty t=some ty) (hd:ty.d=.slice el) (hte:C.ty el=some te) (hz:te.zeroOk=true) (hby:te.bytes≤maxLenA) {k1 k2:IntKind} {n m:Int} (h0:0≤n) (h1:n≤m) (h2:m≤1048576) (hzl:te.zv.lt 0=true) :
  AppOk P B base c ((Instr.makeSlice t (.int k1 n) (.int k2 m)).run P c.w) (.gsl c.H.length n.toNat) (c.H++[.grow te.size (List.replicate n.toNat te.zv)]):=by
 have hu:=zBr (ok.ty _ _ hty) hd
 have hte':=ok.ty _ _ hte
 obtain ⟨i,u,hi,hu',hd',hsz,hbi,hzi⟩:=zBq hte'
 obtain ⟨z,hz0,hzr,hzk,hzs,hzl'⟩:=zero_rel hz
 have hti:(typeInfo el).run P c.w=.ok i c.w:=by simp [typeInfo,hi]
 have w1:=wrap64_small h0 (by omega:n≤1048576)
 have w2:=wrap64_small (by omega:0≤m) h2
 have hbig:¬ ((i.bytes:Int)*m>2^48):=by
  have e1:(2:Int)^48=281474976710656:=by decide
  have hb':(i.bytes:Int)≤1048576:=by have:te.bytes≤1048576:=hby;omega
  have:=Int.mul_le_mul hb' h2 (by omega) (by omega)
  rw [e1];omega
 have hcells:∀ q:Array Value,(if m.toNat*te.size=0 then q=#[] else q=z.cells)→((Array.range (m.toNat*te.size)).map (fun i=>q[i%q.size]!)).toList=flat (List.replicate n.toNat z)++flat (List.replicate (m.toNat-n.toNat) z):=by
  intro q hq
  rw [← zB8,List.replicate_append_replicate,show n.toNat+(m.toNat-n.toNat)=m.toNat by omega,← zero_flat z m.toNat,hzs]
  split at hq
  ·rename_i h0;simp [h0]
  ·subst hq;rw [Array.toList_map,Array.toList_range,hzs]
 have hneg:(decide (m<0)||decide ((i.bytes:Int)*m>2^48)||decide (n<0)||decide (n>m))=false:=by
  have:¬ m<0:=by omega
  have h3:¬ n<0:=by omega
  have h4:¬ n>m:=by omega
  simp [this,h3,h4];omega
 obtain ⟨q,hq,hrun⟩:∃ q:Array Value,(if m.toNat*te.size=0 then q=#[] else q=z.cells)∧(Instr.makeSlice t (.int k1 n) (.int k2 m)).run P c.w=.ok (.slice (some ⟨c.w.heap.size,0,none⟩) n.toNat m.toNat) { c.w with heap:=c.w.heap.push (.cells ((Array.range (m.toNat*te.size)).map (fun i=>q[i%q.size]!)) el) }:=by
  by_cases h0':m.toNat*te.size=0
  ·refine ⟨#[],by simp [h0'],?_⟩
   simp only [Instr.makeSlice,Sem.run_bind,zA9 hu,Result.andThen_ok,asInt,asIntOf,Sem.run_pure,hti,w1,w2,hneg,Bool.false_eq_true,if_false,run_askRoom,zB1 hte',Sem.run_ite,h0',if_true,newRow,run_newObj]
  ·refine ⟨z.cells,by simp [h0'],?_⟩
   simp only [Instr.makeSlice,Sem.run_bind,zA9 hu,Result.andThen_ok,asInt,asIntOf,Sem.run_pure,hti,w1,w2,hneg,Bool.false_eq_true,if_false,run_askRoom,zB1 hte',Sem.run_ite,h0',newRow,run_newObj,run_zero hte' hz0]
 obtain ⟨ρ',g1,g2,g3,g4⟩:=new_grow (es:=List.replicate n.toNat te.zv) (ys:=List.replicate n.toNat z) (sz:=te.size) (T:=el) (rest:=flat (List.replicate (m.toNat-n.toNat) z)) hs hb hB (RelL.replicate (hzr c) _)
  (fun y hy=>by rw [List.eq_of_mem_replicate hy];exact hzs) (ltL_of fun v hv=>by rw [List.eq_of_mem_replicate hv];exact hzl) (fun v hv=>by rw [List.eq_of_mem_replicate hv];exact hzk)
  (w':={ c.w with heap:=c.w.heap.push (.cells ((Array.range (m.toNat*te.size)).map (fun i=>q[i%q.size]!)) el) }) rfl ⟨rfl,rfl,rfl⟩ (hcells q hq) (n:=n.toNat) (cap:=m.toNat) (by simp) (by omega) (by simp)
 exact ⟨_,_,ρ',hrun,g1,g2,g3,g4⟩
theorem copy_ok (ok:Ok C P) (hs:Sim P B c) (hb:HB base c.H) {t el l n:Nat} {te ty:Ty} (hty:C.ty t=some ty) (hd:ty.d=.slice el) (hte:C.ty el=some te) {x:AV} {X Y:Value} {xs ys:List AV} (hl:c.H[l]? = some (.grow te.size xs)) (hn:xs.length=n) (hlen:xs.length=ys.length)
  (hy:elems c.H x=some ys) (rx:Rel c (.gsl l n) X) (ry:Rel c x Y) (hp:ltL 0 ys=true) (hk:zB9 te.size te.agg ys=true) (tys:Array TypeId) (ht0:tys[0]? = some t) (ty':TypeId) :
  AppOk P B base c ((Builtin.copy_ tys ty' #[X,Y]).run P c.w) (.int .i64 ys.length) (c.H.set l (.grow te.size ys)):=by
 have hu:=zBr (ok.ty _ _ hty) hd
 have hte':=ok.ty _ _ hte
 obtain ⟨ad,cap2,rfl,hyk,hyp,hye⟩:=elems_rel hs hy ry
 obtain ⟨NEW,n1,n2,n3,n4⟩:=run_firstCells (P:=P) (cap:=cap2) (sz:=te.size) hye (zB6 hk)
 have rx':=rx
 simp only [Rel] at rx'
 obtain ⟨ad',cap,sz,xs',rfl,hx1,hx2,hx3⟩:=rx'
 rw [hl] at hx1;cases hx1
 have hmin:Nat.min ys.length n=ys.length:=by rw [← hn,hlen];exact Nat.min_self _
 have hrun0:(Builtin.copy_ tys ty' #[.slice ad' n cap,.slice ad ys.length cap2]).run P c.w=((match ad' with | some a=>storeCells a (flat NEW) | none=>pure ()) >>= fun _=>(pure (goInt ys.length):Sem Value)).run P c.w:=by
  have:=n4 c.w rfl
  simp only [Builtin.copy_,ht0,List.getElem?_toArray,List.getElem?_cons_zero,List.getElem?_cons_succ,Sem.run_bind,zA9 hu,Result.andThen_ok,Builtin.lenOf,Sem.run_pure,hmin,zB1 hte',this]
  cases ad'<;>simp
 rcases hx3 hn with ⟨h1,h2,h3⟩ | ⟨b,cells,T,fr,h1,h2,h3,h4,h5⟩
 ·have hxs:xs=[]:=by apply List.length_eq_zero_iff.1;omega
  have hys:ys=[]:=by apply List.length_eq_zero_iff.1;omega
  subst hxs;subst hys
  have hNEW:flat NEW=[]:=List.length_eq_zero_iff.1 (by simpa using n3)
  have hset:c.H.set l (.grow te.size [])=c.H:=by
   obtain ⟨hlt,hg⟩:=List.getElem?_eq_some_iff.1 hl
   rw [← hg,List.set_getElem_self]
  rw [hset]
  refine ⟨goInt 0,c.w,c.ρ,?_,by simp [Rel,goInt],hs,Tr.refl _ _,hb⟩
  rw [hrun0,hNEW]
  cases ad'<;>simp [storeCells]
 ·subst h2
  obtain ⟨o,ho,hr⟩:=hs.obj l b h1
  rw [hl] at ho;cases ho
  obtain ⟨ys',rest,T',r1,r2,r3,r4,r5⟩:=hr
  rw [h4] at r1
  simp only [Option.some.injEq,Obj.cells.injEq] at r1
  obtain ⟨rfl,rfl,rfl⟩:=r1
  have hfl:=zAr r3
  rw [← r2.length] at hfl
  have hone:∀ v∈flat NEW,v.oneCell'=true:=by
   intro v hv
   simp only [flat,List.mem_flatMap] at hv
   obtain ⟨y',hy',hv⟩:=hv
   obtain ⟨k,hk'⟩:=List.getElem?_of_mem hy'
   have hlt:k<ys.length:=by rw [n1.length];exact (List.getElem?_eq_some_iff.1 hk').1
   obtain ⟨z',hz',hrz⟩:=n1.get (List.getElem?_eq_getElem hlt)
   rw [hk'] at hz';cases hz'
   have hkn:=(zB6 hk _ (List.getElem_mem hlt)).2
   exact allScalar_one hkn (zBe hkn hrz) v hv
  obtain ⟨w',s1,s2,s3,s4⟩:=run_storeCells (P:=P) b 0 T (flat NEW) 0 c.w (flat ys'++rest) h4 (by simp [hfl,n3,hlen]) hone
  have hlist:(flat ys'++rest).take (0+0)++flat NEW++(flat ys'++rest).drop (0+0+(flat NEW).length)=flat NEW++rest:=by
   rw [show 0+0+(flat NEW).length=(flat ys').length by rw [hfl,n3,hlen];omega,List.drop_left]
   simp
  rw [hlist] at s4
  have hW:Wr c b w':=store_rel (l:=flat ys'++rest) (l':=flat NEW++rest) rfl h4 s2 s3 s4 (by simp [hfl,n3,hlen])
  have hkd:Kind (.grow te.size xs) (.grow te.size ys):=⟨rfl,by omega⟩
  have tr:Tr base c (c.wr w' l (.grow te.size ys)):=wr_tr h1 hl hW hkd (fun _ _ _ _=>hp)
  refine ⟨goInt ys.length,w',c.ρ,?_,by simp [Rel,goInt],wr_sim hs h1 hl hW hkd ⟨NEW,rest,T,s4,RelL.ext tr.ext _ _ n1,n2,hp,hyk⟩,tr,set_hb hb hl (fun _=>hp) hp⟩
  rw [hrun0]
  simp only [Sem.run_bind,s1,Result.andThen_ok,Sem.run_pure]
theorem flat_parts {ys:List Value} {sz:Nat} (h:∀ y∈ys,y.cells.size=sz) (i:Nat) (hi:i≤ys.length):(flat ys).take (i*sz)=flat (ys.take i)∧(flat ys).drop (i*sz)=flat (ys.drop i):=by
 have e:flat ys=flat (ys.take i)++flat (ys.drop i):=by rw [← zB8,List.take_append_drop]
 have hl:(flat (ys.take i)).length=i*sz:=by
  rw [zAr (sz:=sz) fun y hy=>h y (List.mem_of_mem_take hy),List.length_take,Nat.min_eq_left hi]
 rw [e,← hl]
 exact ⟨List.take_left,List.drop_left⟩
theorem copyW_ok (ok:Ok C P) (hs:Sim P B c) (hb:HB base c.H) {t el l n i:Nat} {te ty:Ty} (hty:C.ty t=some ty) (hd:ty.d=.slice el) (hte:C.ty el=some te) {x:AV} {X Y:Value} {xs ys:List AV} (hl:c.H[l]? = some (.grow te.size xs)) (hn:xs.length=n) (hlen:i+ys.length≤n)
  (hy:elems c.H x=some ys) (rx:Rel c (.wsl l n i (i*te.size)) X) (ry:Rel c x Y) (hp:ltL 0 ys=true) (hk:zB9 te.size te.agg ys=true) (tys:Array TypeId) (ht0:tys[0]? = some t) (ty':TypeId) :
  AppOk P B base c ((Builtin.copy_ tys ty' #[X,Y]).run P c.w) (.int .i64 ys.length) (c.H.set l (.grow te.size (xs.take i++(ys++xs.drop (i+ys.length))))):=by
 have hu:=zBr (ok.ty _ _ hty) hd
 have hte':=ok.ty _ _ hte
 obtain ⟨ad,cap2,rfl,hyk,hyp,hye⟩:=elems_rel hs hy ry
 obtain ⟨NEW,n1,n2,n3,n4⟩:=run_firstCells (P:=P) (cap:=cap2) (sz:=te.size) hye (zB6 hk)
 have rx':=rx
 simp only [Rel] at rx'
 obtain ⟨b,cap,sz,xs',rfl,hx1,⟨hx2,hx3⟩,hx4⟩:=rx'
 rw [hl] at hx1;cases hx1
 obtain ⟨h1,hcap⟩:=hx4 hn
 have hmin:Nat.min ys.length (n-i)=ys.length:=Nat.min_eq_left (by omega)
 have hrun0:(Builtin.copy_ tys ty' #[.slice (some ⟨b,i*te.size,none⟩) (n-i) cap,.slice ad ys.length cap2]).run P c.w=(storeCells ⟨b,i*te.size,none⟩ (flat NEW) >>= fun _=>(pure (goInt ys.length):Sem Value)).run P c.w:=by
  have:=n4 c.w rfl
  simp only [Builtin.copy_,ht0,List.getElem?_toArray,List.getElem?_cons_zero,List.getElem?_cons_succ,Sem.run_bind,zA9 hu,Result.andThen_ok,Builtin.lenOf,Sem.run_pure,hmin,zB1 hte',this]
 obtain ⟨o,ho,hr⟩:=hs.obj l b h1
 rw [hl] at ho;cases ho
 obtain ⟨ys',rest,T',r1,r2,r3,r4,r5⟩:=hr
 have hfl:=zAr r3
 rw [← r2.length] at hfl
 have hyl:ys'.length=n:=by rw [← r2.length,hn]
 have hone:∀ v∈flat NEW,v.oneCell'=true:=by
  intro v hv
  simp only [flat,List.mem_flatMap] at hv
  obtain ⟨y',hy',hv⟩:=hv
  obtain ⟨k,hk'⟩:=List.getElem?_of_mem hy'
  have hlt:k<ys.length:=by rw [n1.length];exact (List.getElem?_eq_some_iff.1 hk').1
  obtain ⟨z',hz',hrz⟩:=n1.get (List.getElem?_eq_getElem hlt)
  rw [hk'] at hz';cases hz'
  have hkn:=(zB6 hk _ (List.getElem_mem hlt)).2
  exact allScalar_one hkn (zBe hkn hrz) v hv
 have hmul:i*te.size+ys.length*te.size≤n*te.size:=by rw [← Nat.add_mul];exact Nat.mul_le_mul_right _ hlen
 have hfl':(flat ys').length=n*te.size:=by rw [hfl,hn]
 obtain ⟨w',s1,s2,s3,s4⟩:=run_storeCells (P:=P) b (i*te.size) T' (flat NEW) 0 c.w (flat ys'++rest) r1 (by simp [hfl',n3];omega) hone
 obtain ⟨p1,_⟩:=flat_parts r3 i (by omega)
 obtain ⟨_,p2⟩:=flat_parts r3 (i+ys.length) (by omega)
 have hlist:(flat ys'++rest).take (i*te.size+0)++flat NEW++(flat ys'++rest).drop (i*te.size+0+(flat NEW).length)=flat (ys'.take i++(NEW++ys'.drop (i+ys.length)))++rest:=by
  rw [Nat.add_zero,n3,← Nat.add_mul,List.take_append_of_le_length (by rw [hfl'];omega),List.drop_append_of_le_length (by rw [hfl',Nat.add_mul];omega),p1,p2]
  simp [zB8]
 rw [hlist] at s4
 have hNl:NEW.length=ys.length:=n1.length.symm
 have hsame:(flat (ys'.take i++(NEW++ys'.drop (i+ys.length)))).length=(flat ys').length:=by
  rw [zAr (sz:=te.size) (ys:=ys'.take i++(NEW++ys'.drop (i+ys.length)))]
  ·rw [hfl']
   congr 1
   simp [hyl,hNl];omega
  ·intro y hy
   rcases List.mem_append.1 hy with h | h
   ·exact r3 y (List.mem_of_mem_take h)
   ·rcases List.mem_append.1 h with h | h
    ·exact n2 y h
    ·exact r3 y (List.mem_of_mem_drop h)
 have hW:Wr c b w':=store_rel (l:=flat ys'++rest) (l':=flat (ys'.take i++(NEW++ys'.drop (i+ys.length)))++rest) rfl r1 s2 s3 s4 (by rw [List.length_append,List.length_append,hsame])
 have hkd:Kind (.grow te.size xs) (.grow te.size (xs.take i++(ys++xs.drop (i+ys.length)))):=⟨rfl,by simp;omega⟩
 have hp':ltL 0 (xs.take i++(ys++xs.drop (i+ys.length)))=true:=ltL_of fun v hv=>by
  rcases List.mem_append.1 hv with h | h
  ·exact ltL_mem r4 v (List.mem_of_mem_take h)
  ·rcases List.mem_append.1 h with h | h
   ·exact ltL_mem hp v h
   ·exact ltL_mem r4 v (List.mem_of_mem_drop h)
 have hk':∀ x∈xs.take i++(ys++xs.drop (i+ys.length)),known x=true:=fun v hv=>by
  rcases List.mem_append.1 hv with h | h
  ·exact r5 v (List.mem_of_mem_take h)
  ·rcases List.mem_append.1 h with h | h
   ·exact hyk v h
   ·exact r5 v (List.mem_of_mem_drop h)
 have tr:Tr base c (c.wr w' l (.grow te.size (xs.take i++(ys++xs.drop (i+ys.length))))):=wr_tr h1 hl hW hkd (fun _ _ _ _=>hp')
 refine ⟨goInt ys.length,w',c.ρ,?_,by simp [Rel,goInt],wr_sim hs h1 hl hW hkd ⟨ys'.take i++(NEW++ys'.drop (i+ys.length)),rest,T',s4,?_,?_,hp',hk'⟩,tr,set_hb hb hl (fun _=>hp') hp'⟩
 ·rw [hrun0]
  simp only [Sem.run_bind,s1,Result.andThen_ok,Sem.run_pure]
 ·exact RelL.ext tr.ext _ _ ((r2.take' i).append (n1.append (r2.drop' _)))
 ·intro y hy
  rcases List.mem_append.1 hy with h | h
  ·exact r3 y (List.mem_of_mem_take h)
  ·rcases List.mem_append.1 h with h | h
   ·exact n2 y h
   ·exact r3 y (List.mem_of_mem_drop h)
theorem newMap_ok (hs:Sim P B c) (hb:HB base c.H) (hB:B≤c.w.heap.size) (t kt:TypeId):AppOk P B base c ((Instr.makeMap t none).run P c.w) (.map c.H.length) (c.H++[.map kt []]):=by
 have tr:Tr base c (c.new (.map #[] 0) (.map kt [])):=new_tr hs _ _
 refine ⟨.map (some c.w.heap.size),_,(c.new (.map #[] 0) (.map kt [])).ρ,by simp only [Instr.makeMap,Sem.run_bind,run_newObj,Result.andThen_ok,Sem.run_pure];try rfl,?_,?_,tr,new_hb hb rfl⟩
 ·show Rel (c.new (.map #[] 0) (.map kt [])) _ _
  simp only [Rel]
  exact ⟨c.w.heap.size,by simp [Cx.new],⟨.map kt [],by simp [Cx.new],rfl⟩,rfl⟩
 ·exact new_sim hs hB ⟨[],new_get,by simp [RelM],by simp⟩
theorem addOff_rel {x v:AV} {X:Value} {k:Nat} (h:addOff x k=some v) (r:Rel c x X):∃ b o,X=.pointer (some ⟨b,o,none⟩)∧Rel c v (.pointer (some ⟨b,o+k,none⟩)):=by
 unfold addOff at h
 split at h
 ·cases h
  simp only [Rel] at r
  obtain ⟨b,h1,h2,rfl⟩:=r
  exact ⟨b,_,rfl,by simp only [Rel];exact ⟨b,h1,h2,rfl⟩⟩
 ·rename_i l n i off
  cases h
  simp only [Rel] at r
  obtain ⟨b,o,sz,xs,rfl,h1,h2,h3⟩:=r
  exact ⟨b,o,rfl,by simp only [Rel];exact ⟨b,o+k,sz,xs,rfl,h1,h2,fun e=>⟨(h3 e).1,by rw [(h3 e).2,Nat.add_assoc]⟩⟩⟩
 ·cases h
  simp only [Rel] at r
  obtain ⟨hp,b,o,y,rfl,h1,h2,h3,h4⟩:=r
  exact ⟨b,_,rfl,by simp only [Rel];exact ⟨hp,b,o,y,by rw [Nat.add_assoc],h1,h2,h3,h4⟩⟩
 ·cases h
end
end Go.Ab
