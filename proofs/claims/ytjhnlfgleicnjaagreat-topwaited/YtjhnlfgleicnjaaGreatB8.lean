/- Each operation of the abstract evaluator that gives a value is one of the model: the theorem. -/
import Derived.Test.YtjhnlfgleicnjaaGreatB7
namespace Go.Ab
set_option linter.unusedSimpArgs false
set_option linter.unusedVariables false
section
variable {C:Cfg} {P:Program} {B:Nat} {F:FI} {c:Cx} {e:Env} {a:Act}
theorem zBk (hs:Sim P B c) {base:Nat} (hb:HB base c.H) {s:Sem Value} {v:AV} (h:∃ V,s.run P c.w=.ok V c.w∧Rel c v V):OpOk P B base c (((do pure (Next.value (← s))):Sem Next).run P c.w) v c.H:=by
 obtain ⟨V,h1,h2⟩:=h
 exact pure_ok hs hb (v_run s h1) h2
theorem app_v {base:Nat} {s:Sem Value} {v:AV} {H':Heap} (h:AppOk P B base c (s.run P c.w) v H'):OpOk P B base c (((do pure (Next.value (← s))):Sem Next).run P c.w) v H' :=
 app_op h fun _ _ h=>v_run s h
theorem unit_v {base:Nat} {s:Sem Unit} {H':Heap} (h:∃ w',s.run P c.w=.ok () w'∧Sim P B ⟨w',c.ρ,H'⟩∧Tr base c ⟨w',c.ρ,H'⟩∧HB base H'):OpOk P B base c (((do s;pure Next.skip):Sem Next).run P c.w) .undef H':=by
 obtain ⟨w',h1,h2,h3,h4⟩:=h
 exact ⟨_,Go.undef,w',c.ρ,u_run s h1,.inr ⟨rfl,rfl⟩,by simp [Rel],h2,h3,h4⟩
theorem sliceElem_inv {tys:List TypeId} {el:TypeId} (h:sliceElem C tys=some el):∃ t r y,tys=t::r∧C.ty t=some y∧y.d=.slice el:=by
 unfold sliceElem at h
 split at h
 ·rename_i t r
  split at h
  ·rename_i e s b z hy
   cases h
   exact ⟨t,r,_,rfl,hy,rfl⟩
  ·cases h
 ·cases h
theorem evLen_shape {x v:AV} {X:Value} (h:evLen x=some v) (r:Rel c x X):∃ ad n cap,X=.slice ad n cap∧v=.int .i64 n:=by
 unfold evLen at h
 split at h
 ·cases h
  simp only [Rel] at r
  obtain ⟨ad,cap,rfl,_⟩:=r
  exact ⟨ad,_,cap,rfl,rfl⟩
 ·cases h
  simp only [Rel] at r
  obtain ⟨ad,cap,_,_,rfl,_⟩:=r
  exact ⟨ad,_,cap,rfl,rfl⟩
 ·cases h
theorem rel_two {x y:AV} {vals:List Value} (h:RelL c [x,y] vals):∃ X Y,vals=[X,Y]∧Rel c x X∧Rel c y Y:=by
 simp only [RelL] at h
 obtain ⟨X,s,rfl,hx,Y,s',rfl,hy,rfl⟩:=h
 exact ⟨X,Y,rfl,hx,hy⟩
theorem builtin_ok (ok:Ok C P) (hs:Sim P B c) {base:Nat} (hb:HB base c.H) (hB:B≤c.w.heap.size) {b:Builtin} {tys:Array TypeId} {ty:TypeId} {cs:Array Bool} {args:List AV} {vals:List Value} {v:AV} {H':Heap} (hr:RelL c args vals) (h:zAv C c.H b tys.toList args=some (.val v H')) :
  OpOk P B base c ((builtin b tys ty cs vals.toArray).run P c.w) v H':=by
 cases b<;>simp only [zAv] at h<;>try (cases h;done)
 case append =>
  split at h
  ·rename_i x y
   obtain ⟨X,Y,rfl,hx,hy⟩:=rel_two hr
   cases hap:evAppend C c.H tys.toList x y with
   | none=>rw [hap] at h;cases h
   | some r =>
    rw [hap] at h
    simp only [Option.map_some,Option.some.injEq,OpR.val.injEq] at h
    obtain ⟨rfl,rfl⟩:=h
    unfold evAppend at hap
    split at hap
    ·rename_i t t' htys
     split at hap
     ·rename_i el s bb z hty
      split at hap
      ·rename_i te ys hte hel
       split at hap
       ·rename_i hc
        simp only [Bool.and_eq_true,decide_eq_true_eq,beq_iff_eq] at hc
        obtain ⟨h1,h2,rfl⟩:=hc
        have htys':tys=#[t',t']:=Array.ext' (by simpa using htys)
        subst htys'
        simp only [builtin]
        exact app_v (addElem_ok hs hb hB (zBr (ok.ty _ _ hty) rfl) (ok.ty _ _ hte) h2 h1 hel hx hy hap)
       ·cases hap
      ·cases hap
     ·cases hap
    ·cases hap
  ·cases h
 case copy =>
  split at h
  ·rename_i x y
   obtain ⟨X,Y,rfl,hx,hy⟩:=rel_two hr
   cases hap:evCopy C c.H tys.toList x y with
   | none=>rw [hap] at h;cases h
   | some r =>
    rw [hap] at h
    simp only [Option.map_some,Option.some.injEq,OpR.val.injEq] at h
    obtain ⟨rfl,rfl⟩:=h
    unfold evCopy at hap
    split at hap
    ·rename_i l n el hel
     split at hap
     ·rename_i te sz xs ys hte hl hys
      split at hap
      ·rename_i hc
       simp only [Bool.and_eq_true,decide_eq_true_eq] at hc
       obtain ⟨h1,h2,rfl,h4,h5⟩:=hc
       cases hap
       obtain ⟨t,rr,yy,ht,hty,hd⟩:=sliceElem_inv hel
       simp only [builtin]
       exact app_v (copy_ok ok hs hb hty hd hte hl h4 h5 hys hx hy h1 h2 tys (by rw [← Array.getElem?_toList,ht];rfl) ty)
      ·cases hap
     ·cases hap
    ·rename_i l n i off el hel
     split at hap
     ·rename_i te sz xs ys hte hl hys
      split at hap
      ·rename_i hc
       simp only [Bool.and_eq_true,decide_eq_true_eq] at hc
       obtain ⟨h1,h2,rfl,h4,rfl,h5⟩:=hc
       cases hap
       obtain ⟨t,rr,yy,ht,hty,hd⟩:=sliceElem_inv hel
       simp only [builtin]
       exact app_v (copyW_ok ok hs hb hty hd hte hl h4 h5 hys hx hy h1 h2 tys (by rw [← Array.getElem?_toList,ht];rfl) ty)
      ·cases hap
     ·cases hap
    ·cases hap
  ·cases h
 case len =>
  split at h
  ·rename_i x el hel
   cases hle:evLen x with
   | none=>rw [hle] at h;cases h
   | some v' =>
    rw [hle] at h
    simp only [Option.map_some,Option.some.injEq,OpR.val.injEq] at h
    obtain ⟨rfl,rfl⟩:=h
    simp only [RelL] at hr
    obtain ⟨X,s,rfl,hx,rfl⟩:=hr
    obtain ⟨ad,n,cap,rfl,rfl⟩:=evLen_shape hle hx
    obtain ⟨t,rr,yy,ht,hty,hd⟩:=sliceElem_inv hel
    have hu:=zBr (ok.ty _ _ hty) hd
    have ht0:tys[0]? = some t:=by rw [← Array.getElem?_toList,ht];rfl
    simp only [builtin]
    exact zBk hs hb ⟨goInt n,by simp only [Builtin.len_,ht0,List.getElem?_toArray,List.getElem?_cons_zero,Sem.run_bind,zA9 hu,Result.andThen_ok,Sem.run_pure],by simp [Rel,goInt]⟩
  ·unfold lenM at h
   split at h
   ·rename_i t r l hty0 _
    split at h
    ·rename_i kt et s b z hty
     split at h
     ·rename_i kt' es hes
      cases h
      have hu:=map_under (ok.ty _ _ hty) rfl
      have ht0:tys[0]? = some t:=by rw [← Array.getElem?_toList,hty0];rfl
      simp only [RelL,Rel] at hr
      obtain ⟨X,s,rfl,⟨b',hb1,_,rfl⟩,rfl⟩:=hr
      obtain ⟨o,ho,hro⟩:=hs.obj l b' hb1
      rw [hes] at ho;cases ho
      simp only [RelO] at hro
      obtain ⟨le,g1,g2,_⟩:=hro
      have hgo:(getObj b').run P c.w=.ok (.map le.toArray le.length) c.w:=by simp [getObj,Sem.run,g1]
      simp only [builtin]
      exact zBk hs hb ⟨goInt es.length,by simp only [Builtin.len_,ht0,List.getElem?_toArray,List.getElem?_cons_zero,Sem.run_bind,zA9 hu,Result.andThen_ok,hgo,Sem.run_pure,List.size_toArray,RelM.len g2],by simp [Rel,goInt]⟩
     ·cases h
    ·cases h
   ·cases h
 case delete =>
  split at h
  ·rename_i t rr l k hty0
   split at h
   ·rename_i kt et s b z hty
    split at h
    ·rename_i hk
     split at h
     ·rename_i kt' es hes
      split at h
      ·rename_i hkf
       obtain ⟨rfl,hfd⟩:=hkf
       simp only [Option.some.injEq,OpR.val.injEq] at h
       obtain ⟨rfl,rfl⟩:=h
       have ht0:tys[0]? = some t:=by rw [← Array.getElem?_toList,hty0];rfl
       obtain ⟨M,K,rfl,hM,hK⟩:=rel_two hr
       obtain ⟨w',g1,g2,g3,g4⟩:=delete_ok (base:=base) ok hs hb hty rfl hk hK hM hes hfd ht0 ty
       simp only [builtin]
       exact app_v ⟨.tuple #[],w',c.ρ,g1,by simp [Rel,RelL],g2,g3,g4⟩
      ·cases h
     ·cases h
    ·cases h
   ·cases h
  ·cases h
 case max =>
  split at h
  ·simp only [Option.some.injEq,OpR.val.injEq] at h;obtain ⟨rfl,rfl⟩:=h
   obtain ⟨X,Y,rfl,hx,hy⟩:=rel_two hr
   simp only [Rel] at hx hy;subst hx hy
   simp only [builtin]
   exact zBk hs hb ⟨_,by simp only [Builtin.max_,List.foldlM_cons,List.foldlM_nil,Builtin.max2,Sem.run_bind,Sem.run_pure,Result.andThen_ok];rfl,by simp only [Rel]⟩
  ·simp only [Option.some.injEq,OpR.val.injEq] at h;obtain ⟨rfl,rfl⟩:=h
   simp only [RelL] at hr
   obtain ⟨X,_,rfl,hx,Y,_,rfl,hy,Z,_,rfl,hz,rfl⟩:=hr
   simp only [Rel] at hx hy hz;subst hx hy hz
   simp only [builtin]
   exact zBk hs hb ⟨_,by simp only [Builtin.max_,List.foldlM_cons,List.foldlM_nil,Builtin.max2,Sem.run_bind,Sem.run_pure,Result.andThen_ok];rfl,by simp only [Rel]⟩
  ·cases h
 case min =>
  split at h
  ·simp only [Option.some.injEq,OpR.val.injEq] at h;obtain ⟨rfl,rfl⟩:=h
   obtain ⟨X,Y,rfl,hx,hy⟩:=rel_two hr
   simp only [Rel] at hx hy;subst hx hy
   simp only [builtin]
   exact zBk hs hb ⟨_,by simp only [Builtin.min_,List.foldlM_cons,List.foldlM_nil,Builtin.min2,Sem.run_bind,Sem.run_pure,Result.andThen_ok];rfl,by simp only [Rel]⟩
  ·simp only [Option.some.injEq,OpR.val.injEq] at h;obtain ⟨rfl,rfl⟩:=h
   simp only [RelL] at hr
   obtain ⟨X,_,rfl,hx,Y,_,rfl,hy,Z,_,rfl,hz,rfl⟩:=hr
   simp only [Rel] at hx hy hz;subst hx hy hz
   simp only [builtin]
   exact zBk hs hb ⟨_,by simp only [Builtin.min_,List.foldlM_cons,List.foldlM_nil,Builtin.min2,Sem.run_bind,Sem.run_pure,Result.andThen_ok];rfl,by simp only [Rel]⟩
  ·cases h
 case panic=>split at h<;>cases h
 case recover=>split at h<;>cases h
theorem zeroOk_lt {y:Ty} (h:y.zeroOk=true):y.zv.lt 0=true:=by
 obtain ⟨z,_,hz,_⟩:=zero_rel h
 exact Rel.lt (c:=⟨default,fun _=>none,[]⟩) _ _ (hz _)
theorem nilAhead_run {t:TypeId} {name:String} {f:FuncId} (h:methodOf P t name=some f) (v:Value) (w:World) (n:Nat) :
  (nilAhead (n+1) t v name).run P w=.ok (some false) w:=by
 unfold methodOf at h
 split at h
 ·rename_i i d hi hd
  have hti:(typeInfo t).run P w=.ok i w:=by simp [typeInfo,hi]
  have key:(∀ el,d≠.pointer el)→(match i.methods.find? (·.name==name) with
   | some m=>if m.path.isEmpty then (match m.func with
    | some (f,false)=>some f
    | _=>none) else none
   | none=>none)=some f→(nilAhead (n+1) t v name).run P w=.ok (some false) w:=by
   intro hp h
   split at h
   ·rename_i m hm
    split at h
    ·rename_i hpa
     split at h
     ·rename_i g hg
      cases h
      have hl:m.path.toList=[]:=by simpa using hpa
      simp only [nilAhead,Sem.run_bind,hti,Result.andThen_ok,hm,hl,followBlind,Sem.run_pure,hg,zA9 hd]
      cases d<;>first | (exact absurd rfl (hp _)) | simp
     ·cases h
    ·cases h
   ·cases h
  cases d
  case pointer=>cases h
  all_goals exact key (by simp) h
 ·cases h
set_option maxHeartbeats 1000000 in
theorem slice_arr (ok:Ok C P) {t el len s b:Nat} {z:Option Value} (hty:C.ty t=some ⟨.array len el,s,b,z⟩) {te:Ty} (hte:C.ty el=some te) {cs:List AV} {X:Value} (r:Rel c (.vptr (.agg cs) 0) X) (hsz:te.size=1) (hlen:cs.length=len) :
  ∃ V,(Instr.sliceAt t X (Option.map a.eval none) (Option.map a.eval none) (Option.map a.eval none)).run P c.w=.ok V c.w∧Rel c (.sl false cs) V:=by
 have hu:=array_under (ok.ty _ _ hty) rfl
 simp only [Rel,AV.lt] at r
 obtain ⟨⟨hl0,hk0⟩,b',o',y,rfl,hb',hno,⟨w,rfl,hry⟩,hlies⟩:=r
 have hk:zAc cs=true:=hk0
 have hone:∀ (xs:List AV) (ys:List Value),zAc xs=true→RelL c xs ys→(∀ y∈ys,y.cells.size=1)∧flat ys=ys:=by
  intro xs
  induction xs with
  | nil =>
   intro ys _ hr
   simp only [RelL] at hr
   subst hr
   exact ⟨by simp,rfl⟩
  | cons x xs ih =>
   intro ys hs hr
   simp only [zAc,Bool.and_eq_true] at hs
   simp only [RelL] at hr
   obtain ⟨y,s,rfl,h1,h2⟩:=hr
   obtain ⟨e1,_,_⟩:=scalar_cells hs.1 h1
   obtain ⟨k1,k2⟩:=ih s hs.2 h2
   refine ⟨fun z hz=>?_,?_⟩
   ·rcases List.mem_cons.1 hz with rfl | hz
    ·rw [e1];rfl
    ·exact k1 z hz
   ·simp only [flat,List.flatMap_cons,e1] at k2 ⊢
    rw [k2]
    rfl
 obtain ⟨k1,k2⟩:=hone cs _ hk hry
 refine ⟨.slice (some (if len=0 then ⟨b',o'+0,none⟩ else Addr.add ⟨b',o'+0,none⟩ (0*te.size))) (len-0) (len-0),?_,?_⟩
 ·simp only [Instr.sliceAt,Sem.run_bind,zA9 hu,Result.andThen_ok,Instr.sureAddr,Sem.run_pure,Option.map_none,Instr.sliceBounds,zB1 (ok.ty _ _ hte)]
 ·simp only [Rel]
  refine ⟨_,len,by rw [hlen];rfl,⟨by simp,by omega⟩,⟨hl0,fun x hx=>?_⟩,?_⟩
  ·have hx:=allScalar_get hk x hx
   cases x<;>first | (cases hx;done) | rfl
  ·right
   refine ⟨b',o',1,w.toList,?_,hb',hno,hry,k1,by rw [k2];exact hlies⟩
   split
   ·rfl
   ·simp [add_addr]
theorem relM_find {es:List (AV×AV)} {l:List MapEntry} {i:Nat} (r:RelM c es l 0) {k v:AV} (h:es[i]? = some (k,v)):∃ e,l.toArray.find? (fun e=>e.born==i)=some e∧Rel c k e.key∧Rel c v e.val∧e.born=i:=by
 have key:∀ (es:List (AV×AV)) (l:List MapEntry) (j i:Nat),RelM c es l j→es[i]? = some (k,v)→∃ e,l.find? (fun e=>e.born==j+i)=some e∧Rel c k e.key∧Rel c v e.val∧e.born=j+i:=by
  intro es
  induction es with
  | nil=>intro l j i _ h;simp at h
  | cons x es ih =>
   obtain ⟨k',v'⟩:=x
   intro l j i r h
   simp only [RelM] at r
   obtain ⟨e0,s,rfl,h1,h2,h3,h4⟩:=r
   cases i with
   | zero =>
    simp at h
    obtain ⟨rfl,rfl⟩:=h
    exact ⟨e0,by simp [h3],h1,h2,by simpa using h3⟩
   | succ i =>
    obtain ⟨e,g1,g2,g3,g4⟩:=ih s (j+1) i h4 (by simpa using h)
    refine ⟨e,?_,g2,g3,by omega⟩
    have hne:(e0.born==j+(i+1))=false:=by rw [h3];simp
    rw [List.find?_cons,hne,← g1]
    simp only [Nat.add_assoc,Nat.add_comm 1 i]
 obtain ⟨e,h1,h2,h3,h4⟩:=key es l 0 i r h
 exact ⟨e,by rw [List.find?_toArray];simpa using h1,h2,h3,by simpa using h4⟩
theorem find_erase:∀ {es:List (AV×AV)} {l:List MapEntry} {j i dd:Nat},RelM c es l j→i≠dd→(l.eraseIdx dd).find? (fun e=>e.born==j+i)=l.find? (fun e=>e.born==j+i)
 | [],l,j,i,dd,r,h=>by simp only [RelM] at r;subst r;simp
 | (k',v')::es,l,j,i,dd,r,h=>by
  simp only [RelM] at r
  obtain ⟨e0,s,rfl,h1,h2,h3,h4⟩:=r
  cases dd with
  | zero =>
   have hne:(e0.born==j+i)=false:=by rw [h3];simp;omega
   rw [List.eraseIdx_cons_zero,List.find?_cons,hne]
  | succ dd =>
   rw [List.eraseIdx_cons_succ,List.find?_cons,List.find?_cons]
   cases i with
   | zero=>simp [h3]
   | succ i =>
    have hne:(e0.born==j+(i+1))=false:=by rw [h3];simp
    rw [hne]
    have:=find_erase (dd:=dd) (i:=i) h4 (by omega)
    rw [show j+1+i=j+(i+1) by omega] at this
    exact this
theorem relM_findD {es:List (AV×AV)} {l:List MapEntry} {i dd:Nat} (r:RelM c es l 0) {k v:AV} (h:es[i]? = some (k,v)) (hne:i≠dd):∃ e,(l.eraseIdx dd).toArray.find? (fun e=>e.born==i)=some e∧Rel c k e.key∧Rel c v e.val∧e.born=i:=by
 obtain ⟨e,h1,h2,h3,h4⟩:=relM_find r h
 refine ⟨e,?_,h2,h3,h4⟩
 rw [List.find?_toArray] at h1 ⊢
 have:=find_erase (i:=i) (dd:=dd) r hne
 rw [Nat.zero_add] at this
 rw [this];exact h1
theorem evOp_val (ok:Ok C P) (hs:Sim P B c) (hb:HB F.base c.H) (hB:B≤c.w.heap.size) (he:zBc c e a.tmps) {o:Oper} {v:AV} {H':Heap} (h:evOp C P F c.H e o=some (.val v H')) :
  OpOk P B F.base c ((execOp a.eval o).run P c.w) v H':=by
 have hρ:=fun x=>rel_opd (C:=C) ok hs.glob he x
 obtain ⟨dst,op,ty0,pos,after,guard⟩:=o
 cases op<;>simp only [evOp] at h<;>try (cases h;done)
 case move x =>
  cases h
  exact pure_ok hs hb (by simp only [execOp,Sem.run_pure]) (hρ x)
 case assign x =>
  split at h
  ·split at h
   ·rename_i el s b z hx hty
    split at h
    ·rename_i te hte
     cases h
     have hx':=hρ x
     rw [hx] at hx'
     simp only [Rel] at hx'
     obtain ⟨ad,cap,hX,hcap,_⟩:=hx'
     have hc0:=hcap.1 trivial
     simp only [List.length_nil] at hc0 hX
     subst hc0
     obtain ⟨g1,g2,g3⟩:=nil_step hs hb te.size
     exact ⟨_,.slice ad 0 0,c.w,c.ρ,by simp only [execOp,Sem.run_pure,hX],.inl rfl,nil_rel hs te.size ad,g1,g2,g3⟩
    ·cases h
   ·cases h
  ·cases h
   exact pure_ok hs hb (by simp only [execOp,Sem.run_pure]) (hρ x)
 case pick x y z =>
  split at h
  ·rename_i t ht
   cases h
   have hx:=hρ x
   rw [ht] at hx
   simp only [Rel] at hx
   refine pure_ok hs hb (v':=if t then a.eval y else a.eval z) ?_ (by cases t;exact hρ z;exact hρ y)
   simp only [execOp,hx,asBool,Sem.run_bind,Sem.run_pure,Result.andThen_ok]
  ·cases h
 case alloc t =>
  split at h
  ·rename_i ty hty
   split at h
   ·rename_i hgr
    simp only [Bool.and_eq_true] at hgr
    split at h
    ·rename_i el s b z0
     split at h
     ·rename_i te hte
      split at h
      ·rename_i hel
       simp only [Bool.and_eq_true] at hel
       cases h
       have hty':=ok.ty _ _ hty
       obtain ⟨z,hz0,hzr,hzk,hzs,hzl⟩:=zero_rel hel.1
       have hy:=hzr c
       have hny:=hgr.2
       have hny:Ty.zv ⟨.slice el,s,b,z0⟩=.sl true []:=by
        unfold zAs at hny
        split at hny
        ·assumption
        ·cases hny
       rw [hny] at hy
       simp only [Rel] at hy
       obtain ⟨ad,cap,hX,hcap,_⟩:=hy
       have hc0:=hcap.1 trivial
       simp only [List.length_nil] at hc0 hX
       subst hc0
       subst hX
       obtain ⟨g1,g2,g3⟩:=nil_step hs hb te.size
       have hnr:=nil_rel (c:=c) (P:=P) hs te.size ad
       obtain ⟨h1,h2⟩:=elemOk_known hel.2
       have hbx:=new_box (P:=P) (c:=⟨c.w,c.ρ,c.H++[.grow te.size []]⟩) g1 g3 hB (T:=t) hnr h2 (by rw [cellsOf_ty hty',known_size h2 hnr,h1])
       obtain ⟨V,w',ρ',r1,r2,r3,r4,r5⟩:=hbx
       simp only [List.length_append,List.length_cons,List.length_nil,List.append_assoc,List.cons_append,List.nil_append,Nat.zero_add] at r2 r3 r4 r5
       refine app_op (P:=P) (B:=B) (base:=F.base) (c:=c) ⟨V,w',ρ',r1,r2,r3,g2.trans r4,r5⟩ fun V w' hh=>?_
       simp only [Sem.run_bind,Sem.run_pure] at hh
       simp only [execOp,Instr.alloc,Sem.run_bind,run_zero hty' hz0,Result.andThen_ok,Sem.run_pure]
       cases hr:(newVar t (.slice ad 0 0)).run P c.w with
       | ok ad w2=>rw [hr] at hh;simp only [Result.andThen_ok,Result.ok.injEq] at hh ⊢;obtain ⟨rfl,rfl⟩:=hh;exact ⟨rfl,rfl⟩
       | halt x w2=>rw [hr] at hh;cases hh
      ·cases h
     ·cases h
    ·cases h
   split at h
   ·rename_i hz
    cases h
    have hty':=ok.ty _ _ hty
    obtain ⟨z,hz0,hzr,hzk,hzs,hzl⟩:=zero_rel hz
    have:=new_box (P:=P) hs hb hB (T:=t) (hzr c) hzk (by rw [cellsOf_ty hty',hzs])
    refine app_op this fun V w' hh=>?_
    simp only [Sem.run_bind,Sem.run_pure] at hh
    simp only [execOp,Instr.alloc,Sem.run_bind,run_zero hty' hz0,Result.andThen_ok,Sem.run_pure]
    cases hr:(newVar t z).run P c.w with
    | ok ad w2=>rw [hr] at hh;simp only [Result.andThen_ok,Result.ok.injEq] at hh ⊢;obtain ⟨rfl,rfl⟩:=hh;exact ⟨rfl,rfl⟩
    | halt x w2=>rw [hr] at hh;cases hh
   ·cases h
  ·cases h
 case box t x =>
  split at h
  ·rename_i ty hty
   split at h
   ·rename_i hgr
    simp only [Bool.and_eq_true] at hgr
    split at h
    ·rename_i el s b z
     split at h
     ·rename_i te hte
      split at h
      ·rename_i hel
       cases h
       have hy:=hρ x
       have hny:opd C e x=.sl true []:=by
        have:=hgr.2
        unfold zAs at this
        split at this
        ·assumption
        ·cases this
       rw [hny] at hy
       simp only [Rel] at hy
       obtain ⟨ad,cap,hX,hcap,_⟩:=hy
       have hc0:=hcap.1 trivial
       simp only [List.length_nil] at hc0 hX
       subst hc0
       have hty':=ok.ty _ _ hty
       obtain ⟨g1,g2,g3⟩:=nil_step hs hb te.size
       have hnr:=nil_rel (c:=c) (P:=P) hs te.size ad
       obtain ⟨h1,h2⟩:=elemOk_known hel
       have hbx:=new_box (P:=P) (c:=⟨c.w,c.ρ,c.H++[.grow te.size []]⟩) g1 g3 hB (T:=t) hnr h2 (by rw [cellsOf_ty hty',known_size h2 hnr,h1])
       obtain ⟨V,w',ρ',r1,r2,r3,r4,r5⟩:=hbx
       simp only [List.length_append,List.length_cons,List.length_nil,List.append_assoc,List.cons_append,List.nil_append,Nat.zero_add] at r2 r3 r4 r5
       refine app_op (P:=P) (B:=B) (base:=F.base) (c:=c) ⟨V,w',ρ',r1,r2,r3,g2.trans r4,r5⟩ fun V w' hh=>?_
       simp only [Sem.run_bind,Sem.run_pure] at hh
       simp only [execOp,Instr.box,Sem.run_bind,Sem.run_pure]
       rw [hX]
       cases hr:(newVar t (.slice ad 0 0)).run P c.w with
       | ok ad w2=>rw [hr] at hh;simp only [Result.andThen_ok,Result.ok.injEq] at hh ⊢;obtain ⟨rfl,rfl⟩:=hh;exact ⟨rfl,rfl⟩
       | halt x w2=>rw [hr] at hh;cases hh
      ·cases h
     ·cases h
    ·cases h
   split at h
   ·rename_i hel
    cases h
    have hty':=ok.ty _ _ hty
    obtain ⟨h1,h2⟩:=elemOk_known hel
    have:=new_box (P:=P) hs hb hB (T:=t) (hρ x) h2 (by rw [cellsOf_ty hty',known_size h2 (hρ x),h1])
    refine app_op this fun V w' hh=>?_
    simp only [Sem.run_bind,Sem.run_pure] at hh
    simp only [execOp,Instr.box,Sem.run_bind,Sem.run_pure]
    cases hr:(newVar t (a.eval x)).run P c.w with
    | ok ad w2=>rw [hr] at hh;simp only [Result.andThen_ok,Result.ok.injEq] at hh ⊢;obtain ⟨rfl,rfl⟩:=hh;exact ⟨rfl,rfl⟩
    | halt x w2=>rw [hr] at hh;cases hh
   ·cases h
  ·cases h
 case build t ps =>
  split at h
  ·rename_i ty hty
   split at h
   ·rename_i hz
    have key:∀ cs,((∃ fs,ty.d=.struct fs∧fillA (zAz C fs) ty.zv.cells (ps.toList.map fun x=>(x.1,opd C e x.2))=some cs) ∨
      (∃ n el te,ty.d=.array n el∧C.ty el=some te∧fillA (fun i=>some (i*te.size,te.size)) ty.zv.cells (ps.toList.map fun x=>(x.1,opd C e x.2))=some cs))→v=.agg cs→H'=c.H →
      OpOk P B F.base c ((execOp a.eval ⟨dst,.build t ps,ty0,pos,after,guard⟩).run P c.w) v H':=by
     rintro cs hcs rfl rfl
     obtain ⟨V,h1,h2⟩:=build_run ok hs.glob he hty hz hcs
     simp only [execOp]
     refine zBk hs hb ⟨V,?_,h2⟩
     rw [show (ps.map fun (x:Nat×Operand)=>match x with | (i,x)=>(i,a.eval x))=(ps.toList.map fun x=>(x.1,a.eval x.2)).toArray from map_pairs ps a.eval]
     exact h1
    split at h
    ·rename_i fs hd
     cases hf:fillA (zAz C fs) ty.zv.cells (ps.toList.map fun x=>(x.1,opd C e x.2)) with
     | none=>rw [hf] at h;cases h
     | some cs =>
      rw [hf] at h
      simp only [Option.map_some,Option.some.injEq,OpR.val.injEq] at h
      obtain ⟨rfl,rfl⟩:=h
      exact key cs (.inl ⟨fs,hd,hf⟩) rfl rfl
    ·rename_i n el hd
     split at h
     ·rename_i te hte
      cases hf:fillA (fun i=>some (i*te.size,te.size)) ty.zv.cells (ps.toList.map fun x=>(x.1,opd C e x.2)) with
      | none=>rw [hf] at h;cases h
      | some cs =>
       rw [hf] at h
       simp only [Option.map_some,Option.some.injEq,OpR.val.injEq] at h
       obtain ⟨rfl,rfl⟩:=h
       exact key cs (.inr ⟨n,el,te,hd,hte,hf⟩) rfl rfl
     ·cases h
    ·cases h
   ·cases h
  ·cases h
 case buildSlice t len ps =>
  split at h
  ·rename_i el s b z hty
   split at h
   ·rename_i te hte
    split at h
    ·rename_i hc
     simp only [Bool.and_eq_true,decide_eq_true_eq,List.all_eq_true] at hc
     obtain ⟨h1,h2,h3,h4⟩:=hc
     cases h
     obtain ⟨hp1,hp2⟩:=rel_parts ok hs.glob he ps.toList
     simp only [execOp]
     rw [show (ps.map fun (x:Nat×Operand)=>match x with | (i,x)=>(i,a.eval x))=(ps.toList.map fun x=>(x.1,a.eval x.2)).toArray from map_pairs ps a.eval]
     exact app_v (buildSlice_ok ok hs hb hty rfl hte h1 h2 h3 (fun x hx=>by
      have:=h4 x hx
      exact ⟨this.1,this.2.1,this.2.2⟩) hp1 hp2)
    ·cases h
   ·cases h
  ·cases h
 case load t x =>
  split at h
  ·rename_i ty hty
   cases hl:evLoad c.H ty (opd C e x) with
   | none=>rw [hl] at h;cases h
   | some v' =>
    rw [hl] at h
    simp only [Option.map_some,Option.some.injEq,OpR.val.injEq] at h
    obtain ⟨rfl,rfl⟩:=h
    simp only [execOp]
    exact zBk hs hb (evLoad_run hs (ok.ty _ _ hty) hl (hρ x))
  ·cases h
 case store t x y =>
  split at h
  ·rename_i ty hty
   split at h
   ·rename_i hgr
    simp only [Bool.and_eq_true] at hgr
    split at h
    ·rename_i el s b z
     split at h
     ·rename_i te hte
      cases hl:evStore F.base (c.H++[.grow te.size []]) ⟨.slice el,s,b,z⟩ (opd C e x) (.gsl c.H.length 0) with
      | none=>rw [hl] at h;cases h
      | some H2 =>
       rw [hl] at h
       simp only [Option.map_some,Option.some.injEq,OpR.val.injEq] at h
       obtain ⟨rfl,rfl⟩:=h
       have hy:=hρ y
       have hny:opd C e y=.sl true []:=by
        have:=hgr.2
        unfold zAs at this
        split at this
        ·assumption
        ·cases this
       rw [hny] at hy
       simp only [Rel] at hy
       obtain ⟨ad,cap,hX,hcap,_⟩:=hy
       have hc0:=hcap.1 trivial
       simp only [List.length_nil] at hc0 hX
       subst hc0
       obtain ⟨g1,g2,g3⟩:=nil_step hs hb te.size
       obtain ⟨w',r1,r2,r3,r4⟩:=evStore_run (c:=⟨c.w,c.ρ,c.H++[.grow te.size []]⟩) g1 g3 (ok.ty _ _ hty) hl (Rel.ext g2.ext _ _ (hρ x)) (nil_rel hs te.size ad)
       simp only [execOp]
       exact unit_v (c:=c) ⟨w',by rw [hX];exact r1,r2,g2.trans r3,r4⟩
     ·cases h
    ·cases h
   cases hl:evStore F.base c.H ty (opd C e x) (opd C e y) with
   | none=>rw [hl] at h;cases h
   | some H2 =>
    rw [hl] at h
    simp only [Option.map_some,Option.some.injEq,OpR.val.injEq] at h
    obtain ⟨rfl,rfl⟩:=h
    simp only [execOp]
    exact unit_v (evStore_run hs hb (ok.ty _ _ hty) hl (hρ x) (hρ y))
  ·cases h
 case nilCheck x =>
  have hx:=hρ x
  split at h<;>first | (cases h;done) | skip
  all_goals
   rename_i hq
   rw [hq] at hx
   have hx0:=hx
   simp only [Rel,RelL] at hx
  ·obtain ⟨b,_,_,hX⟩:=hx;cases h;exact pure_ok hs hb (v':=a.eval x) (by simp only [execOp];rw [hX];rfl) hx0
  ·obtain ⟨b,o,_,_,hX,_⟩:=hx;cases h;exact pure_ok hs hb (v':=a.eval x) (by simp only [execOp];rw [hX];rfl) hx0
  ·obtain ⟨_,b,o,_,hX,_⟩:=hx;cases h;exact pure_ok hs hb (v':=a.eval x) (by simp only [execOp];rw [hX];rfl) hx0
  ·obtain ⟨y,hX,_⟩:=hx;cases h;exact pure_ok hs hb (v':=a.eval x) (by simp only [execOp];rw [hX];rfl) hx0
  ·obtain ⟨g,a',b',hX,hg,_⟩:=hx
   simp only [RelFn] at hg
   subst hg
   cases h
   exact pure_ok hs hb (v':=a.eval x) (by simp only [execOp];rw [hX];rfl) hx0
  ·rename_i nn tt vv fa ca
   split at h
   ·rename_i hme
    obtain ⟨g,a',b',hX,hg,⟨y,s,hy,⟨z,rfl,_⟩,_⟩,_⟩:=hx
    simp only [RelFn] at hg
    subst hg
    cases h
    obtain ⟨f,hf⟩:=Option.isSome_iff_exists.1 hme
    have hfirst:a'[0]? = some (.iface tt z):=by
     rw [← Array.getElem?_toList,hy];rfl
    have hh:P.types.size+Made.depth=(P.types.size+Made.depth-1)+1:=by
     have:0<Made.depth:=by decide
     omega
    have hna:=nilAhead_run (ok.meth _ _ f hf) z c.w (P.types.size+Made.depth-1)
    rw [← hh] at hna
    refine pure_ok hs hb (v':=a.eval x) ?_ hx0
    simp only [execOp,hX,hfirst,Sem.run_bind,show (program).run P c.w=.ok P c.w from rfl,Result.andThen_ok,hna,Sem.run_pure]
    simp
   ·cases h
 case binOp op t x y ov =>
  simp only [execOp]
  split at h
  ·rename_i v' hv
   simp only [Option.some.injEq,OpR.val.injEq] at h
   obtain ⟨rfl,rfl⟩:=h
   exact zBk hs hb (evBin_run ok hv (hρ x) (hρ y))
  ·cases hv:evNil P op t (isConst x||isConst y) (opd C e x) (opd C e y) with
   | none=>rw [hv] at h;cases h
   | some v' =>
    rw [hv] at h
    simp only [Option.map_some,Option.some.injEq,OpR.val.injEq] at h
    obtain ⟨rfl,rfl⟩:=h
    exact zBk hs hb (evNil_run hv (hρ x) (hρ y))
 case unOp op t x =>
  cases hv:evUn op (opd C e x) with
  | none=>rw [hv] at h;cases h
  | some v' =>
   rw [hv] at h
   simp only [Option.map_some,Option.some.injEq,OpR.val.injEq] at h
   obtain ⟨rfl,rfl⟩:=h
   simp only [execOp]
   exact zBk hs hb (evUn_run hv (hρ x))
 case convert src dt x =>
  split at h
  ·rename_i y k s b z kk n hsrc hdst hx
   simp only [Option.some.injEq,OpR.val.injEq] at h
   obtain ⟨rfl,rfl⟩:=h
   have hx':=hρ x
   rw [hx] at hx'
   simp only [Rel] at hx'
   obtain ⟨_,u,_,hu,_⟩:=zBq (ok.ty _ _ hsrc)
   have hd:=int_under (ok.ty _ _ hdst) rfl
   simp only [execOp]
   refine zBk hs hb ⟨.int k (k.wrap n),?_,by simp only [Rel]⟩
   simp only [convert,hx',Sem.run_bind,zA9 hu,zA9 hd,Result.andThen_ok,Conv.intToInt,Sem.run_pure]
  ·cases h
 case makeInterface t x =>
  split at h
  ·rename_i ty hty
   have fin:(ty.d≠.iface)→(if (opd C e x).stored=true then some (OpR.val (.iface t (opd C e x)) c.H) else none)=some (.val v H')→OpOk P B F.base c ((execOp a.eval ⟨dst,.makeInterface t x,ty0,pos,after,guard⟩).run P c.w) v H':=by
    intro hd h
    split at h
    ·simp only [Option.some.injEq,OpR.val.injEq] at h
     obtain ⟨rfl,rfl⟩:=h
     obtain ⟨_,u,_,hu,hdd,_⟩:=zBq (ok.ty _ _ hty)
     simp only [execOp]
     refine zBk hs hb ⟨.iface t (a.eval x),?_,by simp only [Rel];exact ⟨_,rfl,hρ x⟩⟩
     simp only [Instr.makeInterface,Sem.run_bind,zA9 hu,Result.andThen_ok]
     cases u<;>first | rfl | (exact absurd hdd hd)
    ·cases h
   split at h
   ·cases h
   ·rename_i hd
    exact fin hd h
  ·cases h
 case makeFunc fn first cap =>
  split at h
  case isFalse=>cases h
  rename_i hfn
  simp only [Option.some.injEq,OpR.val.injEq] at h
  obtain ⟨rfl,rfl⟩:=h
  simp only [execOp]
  refine zBk hs hb ⟨.func fn (first.map a.eval) (cap.map a.eval),rfl,?_⟩
  simp only [Rel]
  refine ⟨_,_,_,rfl,?_,by simpa using rel_map ok hs.glob he first.toList,by simpa using rel_map ok hs.glob he cap.toList⟩
  cases fn<;>first | rfl | (exact absurd hfn (by simp [noYield]))
 case makeMap t r =>
  cases r with
  | some _=>cases h
  | none =>
   simp only at h
   split at h
   ·rename_i kt et s b z hty
    simp only [Option.some.injEq,OpR.val.injEq] at h
    obtain ⟨rfl,rfl⟩:=h
    simp only [execOp,Option.map_none]
    exact app_v (newMap_ok hs hb hB t kt)
   ·cases h
 case makeSlice t l c' =>
  split at h
  ·rename_i el s b z k1 n k2 m hty hl hc
   split at h
   ·rename_i te hte
    split at h
    ·rename_i hcnd
     simp only [Bool.and_eq_true,decide_eq_true_eq] at hcnd
     obtain ⟨h1,h2,⟨h3,h4,h5⟩,h6⟩:=hcnd
     simp only [Option.some.injEq,OpR.val.injEq] at h
     obtain ⟨rfl,rfl⟩:=h
     have hx:=hρ l
     have hy:=hρ c'
     rw [hl] at hx;rw [hc] at hy
     simp only [Rel] at hx hy
     simp only [execOp,hx,hy]
     exact app_v (makeSlice_ok ok hs hb hB hty rfl hte h1 h2 h3 h4 h5 h6)
    ·cases h
   ·cases h
  ·cases h
 case slice t x lo hi mx =>
  cases mx with
  | some _=>cases h
  | none =>
   simp only at h
   split at h
   ·rename_i el s b z f es hty hx
    split at h
    ·rename_i te hte
     split at h
     ·rename_i hall
      simp only [List.all_eq_true,beq_iff_eq] at hall
      split at h
      ·rename_i kl l kh hh hlo hhi
       split at h
       ·rename_i hc
        simp only [Option.some.injEq,OpR.val.injEq] at h
        obtain ⟨rfl,rfl⟩:=h
        have hX:=hρ x
        rw [hx] at hX
        simp only [execOp,Option.map_none]
        refine zBk hs hb (slice_run ok hty rfl hte hX hall ?_ ?_ hc.1 hc.2.1 hc.2.2)
        ·cases lo with
         | none=>simp only [AV.int.injEq] at hlo;exact .inl ⟨rfl,hlo.2.symm⟩
         | some y =>
          simp only at hlo
          have hy:=hρ y
          rw [hlo] at hy
          simp only [Rel] at hy
          exact .inr ⟨kl,by simp [hy]⟩
        ·cases hi with
         | none=>simp only [AV.int.injEq] at hhi;exact .inl ⟨rfl,hhi.2.symm⟩
         | some y =>
          simp only at hhi
          have hy:=hρ y
          rw [hhi] at hy
          simp only [Rel] at hy
          exact .inr ⟨kh,by simp [hy]⟩
       ·cases h
      ·cases h
     ·cases h
    ·cases h
   ·rename_i el s b z l n hty hx
    split at h
    ·rename_i te hte
     split at h
     ·rename_i y
      split at h
      ·rename_i k i hi
       split at h
       ·rename_i hc
        cases h
        have hX:=hρ x
        rw [hx] at hX
        have hy:=hρ y
        rw [hi] at hy
        simp only [Rel] at hy
        simp only [execOp,Option.map_none,Option.map_some,hy]
        exact zBk hs hb (slice_win ok hty rfl hte hX hc.1 hc.2)
       ·cases h
      ·cases h
     ·cases h
    ·cases h
   ·rename_i len el s b z cs hty hx
    split at h
    ·rename_i te hte
     split at h
     ·rename_i hc
      simp only [Bool.and_eq_true,Option.isNone_iff_eq_none,beq_iff_eq] at hc
      obtain ⟨⟨rfl,rfl⟩,hsz,hlen⟩:=hc
      cases h
      have hX:=hρ x
      rw [hx] at hX
      exact zBk hs hb (slice_arr ok hty hte hX hsz hlen)
     ·cases h
    ·cases h
   ·cases h
 case fieldAddr t x i =>
  split at h
  ·rename_i fs s b z hty
   split at h
   ·rename_i off ft hi
    split at h
    ·rename_i fy hfy
     simp only [execOp]
     obtain ⟨V,h1,h2,rfl⟩:=fieldAddr_run ok hs hty rfl hi hfy h (hρ x)
     exact zBk hs hb ⟨V,h1,h2⟩
    ·cases h
   ·cases h
  ·cases h
 case field t x i =>
  split at h
  ·rename_i fs s b z cs hty hx
   split at h
   ·rename_i off ft hi
    split at h
    ·rename_i fy hfy
     cases hp:zAy cs off fy with
     | none=>rw [hp] at h;cases h
     | some v' =>
      rw [hp] at h
      simp only [Option.map_some,Option.some.injEq,OpR.val.injEq] at h
      obtain ⟨rfl,rfl⟩:=h
      have hX:=hρ x
      rw [hx] at hX
      simp only [Rel] at hX
      obtain ⟨ar,hX,ra⟩:=hX
      obtain ⟨fa,hu,rfl⟩:=struct_under (ok.ty _ _ hty) rfl
      simp only [List.getElem?_map,Option.map_eq_some_iff] at hi
      obtain ⟨f,hf,hfe⟩:=hi
      cases hfe
      obtain ⟨V,h1,h2⟩:=readPart_run (c:=c) (ok.ty _ _ hfy) ra hp
      simp only [execOp,hX]
      refine zBk hs hb ⟨V,?_,h2⟩
      rw [Array.getElem?_toList] at hf
      simp only [Instr.field,Sem.run_bind,zA9 hu,Result.andThen_ok,hf,asAgg,Sem.run_pure]
      exact h1
    ·cases h
   ·cases h
  ·cases h
 case indexAddr t x i =>
  split at h
  ·rename_i el s b z kk k hty hi
   have hI:=hρ i
   rw [hi] at hI
   simp only [Rel] at hI
   split at h
   ·rename_i te hte
    have hX:=hρ x
    simp only [execOp,hI]
    split at h
    ·rename_i f es hx
     rw [hx] at hX
     split at h
     ·rename_i hk
      split at h
      ·rename_i u hu
       split at h
       ·rename_i hsz
        simp only [Option.some.injEq,OpR.val.injEq] at h
        obtain ⟨rfl,rfl⟩:=h
        exact zBk hs hb (indexAddr_slice ok hty rfl hte (.inl ⟨f,es,rfl,hk,u,hu,hsz,rfl⟩) hX)
       ·cases h
      ·cases h
     ·cases h
    ·rename_i l n hx
     rw [hx] at hX
     split at h
     ·rename_i sz xs hl
      split at h
      ·rename_i hc
       obtain ⟨h1,h2,h3,rfl⟩:=hc
       simp only [Option.some.injEq,OpR.val.injEq] at h
       obtain ⟨rfl,rfl⟩:=h
       exact zBk hs hb (indexAddr_slice ok hty rfl hte (.inr ⟨l,n,xs,rfl,hl,h1,h2,h3,rfl⟩) hX)
      ·cases h
     ·cases h
    ·cases h
   ·cases h
  ·rename_i len el s b z kk k hty hi
   have hI:=hρ i
   rw [hi] at hI
   simp only [Rel] at hI
   split at h
   ·rename_i te hte
    split at h
    ·rename_i hc
     cases ha:addOff (opd C e x) (k.toNat*te.size) with
     | none=>rw [ha] at h;cases h
     | some v' =>
      rw [ha] at h
      simp only [Option.map_some,Option.some.injEq,OpR.val.injEq] at h
      obtain ⟨rfl,rfl⟩:=h
      simp only [execOp,hI]
      exact zBk hs hb (indexAddr_array ok hty rfl hte hc.1 hc.2 ha (hρ x))
    ·cases h
   ·cases h
  ·cases h
 case index t x i =>
  split at h
  ·rename_i len el s b z cs kk k hty hx hi
   have hI:=hρ i
   rw [hi] at hI
   simp only [Rel] at hI
   have hX:=hρ x
   rw [hx] at hX
   simp only [Rel] at hX
   obtain ⟨ar,hX,ra⟩:=hX
   split at h
   ·rename_i te hte
    split at h
    ·rename_i hc
     cases hp:zAy cs (k.toNat*te.size) te with
     | none=>rw [hp] at h;cases h
     | some v' =>
      rw [hp] at h
      simp only [Option.map_some,Option.some.injEq,OpR.val.injEq] at h
      obtain ⟨rfl,rfl⟩:=h
      have hte':=ok.ty _ _ hte
      have hu:=array_under (ok.ty _ _ hty) rfl
      obtain ⟨V,h1,h2⟩:=readPart_run (c:=c) hte' ra hp
      simp only [execOp,hX,hI]
      refine zBk hs hb ⟨V,?_,h2⟩
      simp only [Instr.index,asIntOf,Sem.run_bind,Sem.run_pure,zA9 hu,Result.andThen_ok,if_pos hc,zB1 hte']
      exact h1
    ·cases h
   ·cases h
  ·cases h
 case lookup t m k q =>
  split at h
  ·rename_i kt et s b z hty
   split at h
   ·rename_i hk
    split at h
    ·rename_i l hm
     split at h
     ·rename_i kt' es hl
      split at h
      ·rename_i hkt
       subst hkt
       have hM:=hρ m
       rw [hm] at hM
       obtain ⟨g1,g2⟩:=lookup_ok ok hs hty rfl hk (hρ k) hM hl q
       simp only [execOp]
       split at h
       ·rename_i v' hv
        simp only [Option.some.injEq,OpR.val.injEq] at h
        obtain ⟨rfl,rfl⟩:=h
        exact zBk hs hb (g1 _ hv)
       ·rename_i hv
        split at h
        ·rename_i te hte
         split at h
         ·rename_i hz
          simp only [Option.some.injEq,OpR.val.injEq] at h
          obtain ⟨rfl,rfl⟩:=h
          exact zBk hs hb (g2 te hv hte hz)
         ·cases h
        ·cases h
      ·cases h
     ·cases h
    ·cases h
   ·cases h
  ·cases h
 case mapUpdate t m k x =>
  split at h
  ·rename_i kt et s b z hty
   split at h
   ·rename_i hk
    simp only [Bool.and_eq_true] at hk
    split at h
    ·rename_i l hm
     split at h
     ·rename_i kt' es hl
      split at h
      ·rename_i hkt
       subst hkt
       have hM:=hρ m
       rw [hm] at hM
       cases hso:zB0 c.H F.base l (opd C e x) (.map kt' (putM (opd C e k) (opd C e x) es)) with
       | none=>rw [hso] at h;cases h
       | some H2 =>
        rw [hso] at h
        simp only [Option.map_some,Option.some.injEq,OpR.val.injEq] at h
        obtain ⟨rfl,rfl⟩:=h
        simp only [execOp]
        exact unit_v (mapUpdate_ok ok hs hb hty rfl hk.1 (hρ k) hM (hρ x) hl hso)
      ·cases h
     ·cases h
    ·cases h
   ·cases h
  ·cases h
 case insert t m k x =>
  split at h
  ·rename_i kt et s b z hty
   split at h
   ·rename_i hk
    simp only [Bool.and_eq_true] at hk
    split at h
    ·rename_i l hm
     split at h
     ·rename_i kt' es hl
      split at h
      ·rename_i hkt
       subst hkt
       have hM:=hρ m
       rw [hm] at hM
       cases hso:zB0 c.H F.base l (opd C e x) (.map kt' (putM (opd C e k) (opd C e x) es)) with
       | none=>rw [hso] at h;cases h
       | some H2 =>
        rw [hso] at h
        simp only [Option.map_some,Option.some.injEq,OpR.val.injEq] at h
        obtain ⟨rfl,rfl⟩:=h
        simp only [execOp]
        exact unit_v (mapUpdate_ok ok hs hb hty rfl hk.1 (hρ k) hM (hρ x) hl hso)
      ·cases h
     ·cases h
    ·cases h
   ·cases h
  ·cases h
 case mapEntry t m k =>
  split at h
  ·rename_i kt et s b z hty
   split at h
   ·rename_i hk
    split at h
    ·rename_i l hm
     split at h
     ·rename_i kt' es hl
      split at h
      ·rename_i hkt
       subst hkt
       split at h
       ·rename_i te hte
        split at h
        ·rename_i hz
         have hM:=hρ m
         rw [hm] at hM
         cases hso:zB0 c.H F.base l ((zAj (opd C e k) es).getD te.zv) (.map kt' (putM (opd C e k) ((zAj (opd C e k) es).getD te.zv) es)) with
         | none=>rw [hso] at h;cases h
         | some H2 =>
          rw [hso] at h
          simp only [Option.map_some,Option.some.injEq,OpR.val.injEq] at h
          obtain ⟨rfl,rfl⟩:=h
          simp only [execOp]
          obtain ⟨V,w',r1,r2,r3,r4,r5⟩:=mapEntry_ok ok hs hb hty rfl hte hz hk (hρ k) hM hl hso
          exact app_v ⟨V,w',c.ρ,r1,r2,r3,r4,r5⟩
        ·cases h
       ·cases h
      ·cases h
     ·cases h
    ·cases h
   ·cases h
  ·cases h
 case entryStore t m s x =>
  split at h
  ·rename_i l n hm hsx
   split at h
   ·rename_i kt es hl
    split at h
    ·rename_i hn
     simp only [decide_eq_true_eq] at hn
     have hM:=hρ m
     rw [hm] at hM
     have hS:=hρ s
     rw [hsx] at hS
     simp only [Rel] at hS
     cases hso:zB0 c.H F.base l (opd C e x) (.map kt (setM (opd C e x) n.toNat es)) with
     | none=>rw [hso] at h;cases h
     | some H2 =>
      rw [hso] at h
      simp only [Option.map_some,Option.some.injEq,OpR.val.injEq] at h
      obtain ⟨rfl,rfl⟩:=h
      simp only [execOp,hS]
      exact unit_v (entryStore_ok hs hb hM (hρ x) hl hn hso)
    ·cases h
   ·cases h
  ·cases h
 case range t x =>
  split at h
  ·rename_i kt et s0 b0 z0 hty
   split at h
   ·rename_i l hx
    split at h
    ·rename_i kt' es hl
     cases h
     have hx':=hρ x
     rw [hx] at hx'
     simp only [Rel] at hx'
     obtain ⟨d,hd,_,hX⟩:=hx'
     obtain ⟨o,ho,hro⟩:=hs.obj l d hd
     rw [hl] at ho
     cases ho
     obtain ⟨L,k1,k2,k3⟩:=hro
     have hu:=map_under (ok.ty _ _ hty) rfl
     have ht:=new_tr (base:=F.base) hs (.mapIter (some d) es.length #[] es.length) (.iter l es.length [])
     have hlen:L.length=es.length:=k2.len
     have hrun:(getObj d).run P c.w=.ok (.map L.toArray L.length) c.w:=zB2 k1
     have hnl:l<c.H.length:=(List.getElem?_eq_some_iff.1 hl).1
     refine ⟨.value (.pointer (some ⟨c.w.heap.size,0,none⟩)),.pointer (some ⟨c.w.heap.size,0,none⟩),(c.new (.mapIter (some d) es.length #[] es.length) (.iter l es.length [])).w,(c.new (.mapIter (some d) es.length #[] es.length) (.iter l es.length [])).ρ,?_,.inl rfl,?_,?_,ht,?_⟩
     ·simp only [execOp,Instr.range,Sem.run_bind,zA9 hu,Result.andThen_ok,hX,hrun,Sem.run_pure,newObj,Sem.run,hlen,Cx.new]
     ·simp only [Rel]
      exact ⟨c.w.heap.size,by simp [Cx.new],⟨.iter l es.length [],by simp,rfl⟩,rfl⟩
     ·refine new_sim hs hB ⟨d,?_,?_,.map kt' es,?_,rfl⟩
      ·exact new_get
      ·simp [Cx.new,show l≠c.H.length by omega,hd]
      ·simp only [Cx.new];rw [List.getElem?_append_left hnl];exact hl
     ·exact new_hb hb (by simpa [AO.lt] using hnl)
    ·rename_i kt' es dd hl
     cases h
     have hx':=hρ x
     rw [hx] at hx'
     simp only [Rel] at hx'
     obtain ⟨d,hd,_,hX⟩:=hx'
     obtain ⟨o,ho,hro⟩:=hs.obj l d hd
     rw [hl] at ho
     cases ho
     obtain ⟨L,k1,k2,k3⟩:=hro
     have hu:=map_under (ok.ty _ _ hty) rfl
     have ht:=new_tr (base:=F.base) hs (.mapIter (some d) es.length #[] es.length) (.iter l es.length [])
     have hlen:L.length=es.length:=k2.len
     have hrun:(getObj d).run P c.w=.ok (.map (L.eraseIdx dd).toArray L.length) c.w:=zB2 k1
     have hnl:l<c.H.length:=(List.getElem?_eq_some_iff.1 hl).1
     refine ⟨.value (.pointer (some ⟨c.w.heap.size,0,none⟩)),.pointer (some ⟨c.w.heap.size,0,none⟩),(c.new (.mapIter (some d) es.length #[] es.length) (.iter l es.length [])).w,(c.new (.mapIter (some d) es.length #[] es.length) (.iter l es.length [])).ρ,?_,.inl rfl,?_,?_,ht,?_⟩
     ·simp only [execOp,Instr.range,Sem.run_bind,zA9 hu,Result.andThen_ok,hX,hrun,Sem.run_pure,newObj,Sem.run,hlen,Cx.new]
     ·simp only [Rel]
      exact ⟨c.w.heap.size,by simp [Cx.new],⟨.iter l es.length [],by simp,rfl⟩,rfl⟩
     ·refine new_sim hs hB ⟨d,?_,?_,.dmap kt' es dd,?_,rfl⟩
      ·exact new_get
      ·simp [Cx.new,show l≠c.H.length by omega,hd]
      ·simp only [Cx.new];rw [List.getElem?_append_left hnl];exact hl
     ·exact new_hb hb (by simpa [AO.lt] using hnl)
    ·cases h
   ·cases h
  ·cases h
 case entry it =>
  split at h
  ·rename_i l hx
   split at h
   ·rename_i m n seen hl
    split at h
    ·rename_i kt es i hm hi
     split at h
     ·rename_i hn
      split at h
      ·rename_i k' v' hes
       cases h
       have hx':=hρ it
       rw [hx] at hx'
       simp only [Rel] at hx'
       obtain ⟨b,hb',_,hX⟩:=hx'
       obtain ⟨o,ho,hro⟩:=hs.obj l b hb'
       rw [hl] at ho
       cases ho
       obtain ⟨d,g1,g2,_,g3,_⟩:=hro
       obtain ⟨o,ho,hro⟩:=hs.obj m d g2
       rw [hm] at ho
       cases ho
       obtain ⟨L,k1,k2,k3⟩:=hro
       obtain ⟨e,q1,q2,q3,q4⟩:=relM_find k2 hes
       have hlen:L.length=es.length:=k2.len
       have r1:(getObj b).run P c.w=.ok (.mapIter (some d) n seen.toArray n) c.w:=by simp [getObj,Sem.run,g1]
       have r2:(getObj d).run P c.w=.ok (.map L.toArray L.length) c.w:=zB2 k1
       have hbk:seen.toArray.back? = some i:=by rw [List.back?_toArray];exact hi
       have hcl:(L.length != n)=false:=by rw [hlen,hn];simp
       refine pure_ok hs hb (v':=.tuple #[e.key,e.val]) ?_ ?_
       ·simp only [execOp,Instr.entry,hX,Sem.run_bind,r1,r2,Result.andThen_ok,hbk,hcl,Bool.false_eq_true,if_false,q1,Sem.run_pure]
       ·simp only [Rel,RelL]
        exact ⟨_,rfl,_,_,rfl,q2,_,_,rfl,q3,rfl⟩
      ·cases h
     ·cases h
    ·rename_i kt es dd i hm hi
     split at h
     ·rename_i hnn
      obtain ⟨hn,hne⟩:=hnn
      split at h
      ·rename_i k' v' hes
       cases h
       have hx':=hρ it
       rw [hx] at hx'
       simp only [Rel] at hx'
       obtain ⟨b,hb',_,hX⟩:=hx'
       obtain ⟨o,ho,hro⟩:=hs.obj l b hb'
       rw [hl] at ho
       cases ho
       obtain ⟨d,g1,g2,_,g3,_⟩:=hro
       obtain ⟨o,ho,hro⟩:=hs.obj m d g2
       rw [hm] at ho
       cases ho
       obtain ⟨L,k1,k2,k3⟩:=hro
       obtain ⟨e,q1,q2,q3,q4⟩:=relM_findD k2 hes hne
       have hlen:L.length=es.length:=k2.len
       have r1:(getObj b).run P c.w=.ok (.mapIter (some d) n seen.toArray n) c.w:=by simp [getObj,Sem.run,g1]
       have r2:(getObj d).run P c.w=.ok (.map (L.eraseIdx dd).toArray L.length) c.w:=zB2 k1
       have hbk:seen.toArray.back? = some i:=by rw [List.back?_toArray];exact hi
       have hcl:(L.length != n)=false:=by rw [hlen,hn];simp
       refine pure_ok hs hb (v':=.tuple #[e.key,e.val]) ?_ ?_
       ·simp only [execOp,Instr.entry,hX,Sem.run_bind,r1,r2,Result.andThen_ok,hbk,hcl,Bool.false_eq_true,if_false,q1,Sem.run_pure]
       ·simp only [Rel,RelL]
        exact ⟨_,rfl,_,_,rfl,q2,_,_,rfl,q3,rfl⟩
      ·cases h
     ·cases h
    ·cases h
   ·cases h
  ·cases h
 case typeAssert x t0 t q =>
  split at h
  ·rename_i ty hty
   have hX:=hρ x
   have fin:(ty.d≠.iface)→(match opd C e x with
    | .iface u v=>if u=t then some (OpR.val (if q then .tup [v,.bool true] else v) c.H)
     else if q&&ty.zeroOk then some (.val (.tup [ty.zv,.bool false]) c.H) else none
    | _=>none)=some (.val v H')→OpOk P B F.base c ((execOp a.eval ⟨dst,.typeAssert x t0 t q,ty0,pos,after,guard⟩).run P c.w) v H':=by
    intro hd h9
    have hty':=ok.ty _ _ hty
    obtain ⟨_,u,_,hu,hdd,_⟩:=zBq hty'
    have hni:∀ ms,u≠.interface ms:=by rintro ms rfl;exact hd hdd
    simp only [execOp]
    split at h9
    ·rename_i tt vv hx
     rw [hx] at hX
     simp only [Rel] at hX
     obtain ⟨y,hX,hy⟩:=hX
     rw [hX]
     split at h9
     ·rename_i htt
      subst htt
      simp only [Option.some.injEq,OpR.val.injEq] at h9
      obtain ⟨rfl,rfl⟩:=h9
      refine zBk hs hb ⟨if q then .tuple #[y,.bool true] else y,?_,?_⟩
      ·simp only [Instr.typeAssert,Sem.run_bind,zA9 hu,Result.andThen_ok]
       cases u<;>first | (exact absurd rfl (hni _)) | (cases q<;>simp)
      ·cases q
       ·exact hy
       ·simp only [if_true,Rel,RelL];exact ⟨_,rfl,y,_,rfl,hy,_,_,rfl,rfl,rfl⟩
     ·rename_i htt
      split at h9
      ·rename_i hz
       simp only [Bool.and_eq_true] at hz
       obtain ⟨rfl,hz⟩:=hz
       simp only [Option.some.injEq,OpR.val.injEq] at h9
       obtain ⟨rfl,rfl⟩:=h9
       obtain ⟨z,hz0,hzr,_⟩:=zero_rel hz
       refine zBk hs hb ⟨.tuple #[z,.bool false],?_,?_⟩
       ·simp only [Instr.typeAssert,Sem.run_bind,zA9 hu,Result.andThen_ok]
        cases u<;>first | (exact absurd rfl (hni _)) | (simp only [if_neg htt,if_true,Sem.run_bind,run_zero hty' hz0,Result.andThen_ok,Sem.run_pure])
       ·simp only [Rel,RelL];exact ⟨_,rfl,z,_,rfl,hzr c,_,_,rfl,rfl,rfl⟩
      ·cases h9
    ·cases h9
   split at h
   ·cases h
   ·rename_i hd
    exact fin hd h
  ·cases h
 case extract x i =>
  split at h
  ·rename_i vs hx
   split at h
   ·rename_i v' hi
    simp only [Option.some.injEq,OpR.val.injEq] at h
    obtain ⟨rfl,rfl⟩:=h
    have hX:=hρ x
    rw [hx] at hX
    simp only [Rel] at hX
    obtain ⟨ar,hX,ra⟩:=hX
    obtain ⟨V,h1,h2⟩:=RelL.get ra hi
    simp only [execOp,hX]
    rw [Array.getElem?_toList] at h1
    exact zBk hs hb ⟨V,by simp only [Instr.extract,h1,Sem.run_pure],h2⟩
   ·cases h
  ·cases h
 case call cl =>
  obtain ⟨callee,args,tys⟩:=cl
  simp only [zBi] at h
  cases callee with
  | builtin b =>
   simp only at h
   have hr:=rel_map ok hs.glob he args.toList
   have:=builtin_ok ok hs hb hB (ty:=ty0) (cs:=args.map fun | .const _=>true | _=>false) hr h
   simp only [execOp,resolve,Sem.run_bind,Sem.run_pure,Result.andThen_ok,invoke]
   rw [show args.map a.eval=(args.toList.map a.eval).toArray from Array.ext' (by simp)]
   exact this
  | invoke r n=>cases h
  | value f =>
   simp only at h
   split at h<;>cases h
 case defer cl =>
  split at h
  ·split at h<;>cases h
  ·cases h
 case panic x =>
  split at h<;>cases h
end
end Go.Ab
