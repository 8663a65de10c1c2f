/- Code: the evaluator's run is the machine's; the whole of it, but for the regions that ask for an order. -/
import Derived.Test.YtjhnlfgleicnjaaGreatC9
namespace Go.Ab
set_option linter.unusedSimpArgs false
set_option linter.unusedVariables false
section
variable {C:Cfg} {P:Program} {B:Nat} {F:FI} {c:Cx} {e:Env} {tm:Array Value} {df:List Deferred} {rd:Option Nat} {u:Up} {todo k:List Item} {cs:List Frame} {w:World} {s:St} {d:Done}
theorem choose_run (n:Nat) (hn:0<n) (w:World):∃ j w1,(choose (.mapNext n)).run P w=.ok j w1∧j<n∧w1.heap=w.heap∧SysEq w w1:=by
 by_cases h:n≤1
 ·refine ⟨0,w,?_,hn,rfl,⟨rfl,rfl,rfl⟩⟩
  have:Question.forced (.mapNext n)=true:=by simpa [Question.forced] using h
  simp [choose,Sem.run,this]
 ·refine ⟨_,{ w with drawn:=w.drawn+1 },?_,Nat.mod_lt (w.tape w.drawn (.mapNext n)) hn,rfl,⟨rfl,rfl,rfl⟩⟩
  have:Question.forced (.mapNext n)=false:=by simpa [Question.forced] using h
  simp [choose,Sem.run,this,Question.cut]
theorem getIter_run {w:World} {b:Nat} {o:Obj} (h:w.heap[b]? = some o) (hc:∀ cs T fr,o≠.cells cs T fr):(getObj b).run P w=.ok o w:=by
 cases o<;>simp_all [getObj,Sem.run]
theorem next_run {base:Nat} (hs:Sim P B c) (hb:HB base c.H) {l m n b:Nat} {seen:List Nat} {kt:TypeId} {es:List (AV×AV)} (hl:c.ρ l=some b) (hi:c.H[l]? = some (.iter m n seen)) (hm:c.H[m]? = some (.map kt es)) (hn:es.length=n) (ty:TypeId) :
  ∃ V w' p,(Instr.next (.pointer (some ⟨b,0,none⟩)) false ty).run P c.w=.ok V w'∧p∈nextVals es seen∧Sim P B ⟨w',c.ρ,c.H.set l (.iter m n p.2)⟩∧Tr base c ⟨w',c.ρ,c.H.set l (.iter m n p.2)⟩∧HB base (c.H.set l (.iter m n p.2)) ∧
   Rel ⟨w',c.ρ,c.H.set l (.iter m n p.2)⟩ p.1 V:=by
 obtain ⟨o,ho,hro⟩:=hs.obj l b hl
 rw [hi] at ho
 cases ho
 obtain ⟨d,g1,g2,_,_,_⟩:=hro
 obtain ⟨o,ho,hro⟩:=hs.obj m d g2
 rw [hm] at ho
 cases ho
 obtain ⟨L,k1,k2,k3⟩:=hro
 have hlen:L.length=n:=by rw [k2.len,hn]
 have hborn:∀ (i:Nat) (e:MapEntry),L[i]? = some e→e.born=i:=fun i e h=>by simpa using (k2.at i e h).1
 have hlt:∀ e∈L,e.born<n:=by
  intro e he
  obtain ⟨i,hi',rfl⟩:=List.mem_iff_getElem.1 he
  rw [hborn i _ (List.getElem?_eq_getElem hi')]
  omega
 have r1:=getIter_run (P:=P) g1 (by simp)
 have r2:=getIter_run (P:=P) k1 (by simp)
 rw [hlen] at r2
 have hall:(!seen.toArray.isEmpty&&!L.toArray.isEmpty&&L.toArray.all (fun e=>decide (e.born≥n)))=false:=by
  cases L with
  | nil=>simp
  | cons e L =>
   have:=hlt e (by simp)
   simp [show ¬ n≤e.born by omega]
 generalize hold:(L.toArray.filter fun e=>!seen.toArray.contains e.born).filter (fun e=>decide (e.born<n))=old
 generalize hnew:(L.toArray.filter fun e=>!seen.toArray.contains e.born).filter (fun e=>decide (e.born≥n))=new
 generalize hcd:(if old.isEmpty then #[none] else #[])++(old++new).map some=cand
 have hsz:0<cand.size:=by
  rw [← hcd]
  by_cases h:old.isEmpty=true
  ·simp [h];omega
  ·have:0<old.size:=by
    rcases Nat.eq_zero_or_pos old.size with h0 | h0
    ·exact absurd (by simpa [Array.isEmpty] using h0) h
    ·exact h0
   simp;omega
 obtain ⟨j,w1,q1,q2,q3,q4⟩:=choose_run (P:=P) cand.size hsz c.w
 have hj:cand[j]? = some cand[j]:=Array.getElem?_eq_getElem q2
 have hs1:=heap_sim hs q3 q4
 have ht1:=heap_tr (c:=c) (base:=base) q3 q4
 cases hx:cand[j] with
 | none =>
  have hmem:(none:Option MapEntry)∈cand:=hx ▸ Array.getElem_mem q2
  rw [← hcd] at hmem
  have hemp:old.isEmpty=true:=by
   by_cases h:old.isEmpty=true
   ·exact h
   ·simp [h] at hmem
  have hq:(List.range es.length).filter (fun i=>!seen.contains i)=[]:=by
   rw [List.filter_eq_nil_iff]
   intro i hi'
   rw [List.mem_range,hn] at hi'
   intro hc
   have hmemL:L[i]'(by omega)∈old:=by
    rw [← hold]
    simp only [Array.mem_filter]
    refine ⟨⟨by simp,?_⟩,?_⟩
    ·rw [hborn i _ (List.getElem?_eq_getElem (by omega))];simpa using hc
    ·rw [hborn i _ (List.getElem?_eq_getElem (by omega))];simpa using hi'
   simp only [Array.isEmpty_iff] at hemp
   rw [hemp] at hmemL
   simp at hmemL
  have hset:c.H.set l (.iter m n seen)=c.H:=by
   have hl':=(List.getElem?_eq_some_iff.1 hi)
   obtain ⟨h1,h2⟩:=hl'
   rw [← h2]
   exact List.set_getElem_self h1
  refine ⟨.tuple #[.bool false],w1,(.tup [.bool false],seen),?_,?_,?_⟩
  ·simp only [Instr.next,Sem.run_bind,r1,r2,Result.andThen_ok,hall,Bool.false_eq_true,if_false,Sem.run_pure,hold,hnew,hcd,q1,hj,hx]
  ·simp only [nextVals,hq]
   simp
  ·simp only
   rw [hset]
   refine ⟨hs1,ht1,hb,?_⟩
   simp only [Rel,RelL]
   exact ⟨_,rfl,_,_,rfl,rfl,rfl⟩
 | some e =>
  have hmem:some e∈cand:=hx ▸ Array.getElem_mem q2
  rw [← hcd] at hmem
  have hmemL:e∈L∧e.born ∉ seen:=by
   have h1:e∈old∨e∈new:=by
    by_cases h:old.isEmpty=true<;>simpa [h] using hmem
   rw [← hold,← hnew] at h1
   simp only [Array.mem_filter] at h1
   rcases h1 with ⟨⟨h1,h2⟩,_⟩ | ⟨⟨h1,h2⟩,_⟩<;>exact ⟨by simpa using h1,by simpa using h2⟩
  obtain ⟨i,hi',hie⟩:=List.mem_iff_getElem.1 hmemL.1
  have hLi:L[i]? = some e:=by rw [List.getElem?_eq_getElem hi',hie]
  have hbi:=hborn i e hLi
  obtain ⟨pv,hp1,hp2,hp3⟩:=(k2.at i e hLi).2
  have g1':w1.heap[b]? = some (.mapIter (some d) n seen.toArray n):=by rw [q3];exact g1
  obtain ⟨z1,z2,z3,z4⟩:=set_obj (base:=base) (c:=⟨w1,c.ρ,c.H⟩) (y:=.mapIter (some d) n (seen.toArray.push e.born) n) (a:=.iter m n (seen++[i])) hs1 hb hl hi g1' (by simp) (by simp [Kind])
   (fun c' hx' hy=>by
    obtain ⟨x',h4,h5⟩:=hx'.kind _ _ hm
    exact ⟨d,by rw [hy,hbi];simp,hx'.same _ _ _ hm g2 (by simp),x',h4,h5.mp rfl⟩) (fun N hN=>hN)
  refine ⟨.tuple #[.bool true,e.key,e.val],_,(.tup [.bool true,pv.1,pv.2],seen++[i]),?_,?_,z2,ht1.trans z3,z4,?_⟩
  ·simp only [Instr.next,Sem.run_bind,r1,r2,Result.andThen_ok,hall,Bool.false_eq_true,if_false,Sem.run_pure,hold,hnew,hcd,q1,hj,hx,z1]
  ·have hq:i∈(List.range es.length).filter (fun i=>!seen.contains i):=by
    rw [List.mem_filter,List.mem_range]
    exact ⟨by omega,by rw [hbi] at hmemL;simpa using hmemL.2⟩
   simp only [nextVals]
   split
   ·rename_i e0;rw [e0] at hq;simp at hq
   ·refine List.mem_map.2 ⟨i,hq,?_⟩
    have:es.getD i (.undef,.undef)=pv:=by simp [hp1]
    rw [this]
  ·have hx2:=(ht1.trans z3).ext
   simp only [Rel,RelL]
   exact ⟨_,rfl,_,_,rfl,rfl,_,_,rfl,Rel.ext hx2 _ _ hp2,_,_,rfl,Rel.ext hx2 _ _ hp3,rfl⟩
theorem next_runD {base:Nat} (hs:Sim P B c) (hb:HB base c.H) {l m n b:Nat} {seen:List Nat} {kt:TypeId} {es:List (AV×AV)} (hl:c.ρ l=some b) (hi:c.H[l]? = some (.iter m n seen)) {dd:Nat} (hm:c.H[m]? = some (.dmap kt es dd)) (hn:es.length=n) (ty:TypeId) :
  ∃ V w' p,(Instr.next (.pointer (some ⟨b,0,none⟩)) false ty).run P c.w=.ok V w'∧p∈nextValsD es dd seen∧Sim P B ⟨w',c.ρ,c.H.set l (.iter m n p.2)⟩∧Tr base c ⟨w',c.ρ,c.H.set l (.iter m n p.2)⟩∧HB base (c.H.set l (.iter m n p.2)) ∧
   Rel ⟨w',c.ρ,c.H.set l (.iter m n p.2)⟩ p.1 V:=by
 obtain ⟨o,ho,hro⟩:=hs.obj l b hl
 rw [hi] at ho
 cases ho
 obtain ⟨d,g1,g2,_,_,_⟩:=hro
 obtain ⟨o,ho,hro⟩:=hs.obj m d g2
 rw [hm] at ho
 cases ho
 obtain ⟨L,k1,k2,k3⟩:=hro
 have hlen:L.length=n:=by rw [k2.len,hn]
 have hborn:∀ (i:Nat) (e:MapEntry),L[i]? = some e→e.born=i:=fun i e h=>by simpa using (k2.at i e h).1
 obtain ⟨L0,hL0⟩:∃ L0,L.eraseIdx dd=L0:=⟨_,rfl⟩
 have hmemD:∀ e∈L0,∃ i,i≠dd∧L[i]? = some e:=by
  intro e he
  rw [← hL0,List.mem_eraseIdx_iff_getElem] at he
  obtain ⟨i,hi',hne,rfl⟩:=he
  exact ⟨i,hne,List.getElem?_eq_getElem hi'⟩
 have hinD:∀ i (hi':i<L.length),i≠dd→L[i]∈L0:=by
  intro i hi' hne
  rw [← hL0,List.mem_eraseIdx_iff_getElem]
  exact ⟨i,hi',hne,rfl⟩
 have hlt:∀ e∈L0,e.born<n:=by
  intro e he
  obtain ⟨i,_,hLi⟩:=hmemD e he
  have:=(List.getElem?_eq_some_iff.1 hLi).1
  rw [hborn i _ hLi]
  omega
 have r1:=getIter_run (P:=P) g1 (by simp)
 have r2:=getIter_run (P:=P) k1 (by simp)
 rw [hlen,hL0] at r2
 have hall:(!seen.toArray.isEmpty&&!L0.toArray.isEmpty&&L0.toArray.all (fun e=>decide (e.born≥n)))=false:=by
  cases L0 with
  | nil=>simp
  | cons e L0 =>
   have:=hlt e (by simp)
   simp [show ¬ n≤e.born by omega]
 generalize hold:(L0.toArray.filter fun e=>!seen.toArray.contains e.born).filter (fun e=>decide (e.born<n))=old
 generalize hnew:(L0.toArray.filter fun e=>!seen.toArray.contains e.born).filter (fun e=>decide (e.born≥n))=new
 generalize hcd:(if old.isEmpty then #[none] else #[])++(old++new).map some=cand
 have hsz:0<cand.size:=by
  rw [← hcd]
  by_cases h:old.isEmpty=true
  ·simp [h];omega
  ·have:0<old.size:=by
    rcases Nat.eq_zero_or_pos old.size with h0 | h0
    ·exact absurd (by simpa [Array.isEmpty] using h0) h
    ·exact h0
   simp;omega
 obtain ⟨j,w1,q1,q2,q3,q4⟩:=choose_run (P:=P) cand.size hsz c.w
 have hj:cand[j]? = some cand[j]:=Array.getElem?_eq_getElem q2
 have hs1:=heap_sim hs q3 q4
 have ht1:=heap_tr (c:=c) (base:=base) q3 q4
 cases hx:cand[j] with
 | none =>
  have hmem:(none:Option MapEntry)∈cand:=hx ▸ Array.getElem_mem q2
  rw [← hcd] at hmem
  have hemp:old.isEmpty=true:=by
   by_cases h:old.isEmpty=true
   ·exact h
   ·simp [h] at hmem
  have hq:(List.range es.length).filter (fun i=>!seen.contains i&&i != dd)=[]:=by
   rw [List.filter_eq_nil_iff]
   intro i hi'
   rw [List.mem_range,hn] at hi'
   intro hc
   simp only [Bool.and_eq_true,bne_iff_ne,ne_eq] at hc
   obtain ⟨hc,hne⟩:=hc
   have hmemL:L[i]'(by omega)∈old:=by
    rw [← hold]
    simp only [Array.mem_filter]
    refine ⟨⟨by simpa using hinD i (by omega) hne,?_⟩,?_⟩
    ·rw [hborn i _ (List.getElem?_eq_getElem (by omega))];simpa using hc
    ·rw [hborn i _ (List.getElem?_eq_getElem (by omega))];simpa using hi'
   simp only [Array.isEmpty_iff] at hemp
   rw [hemp] at hmemL
   simp at hmemL
  have hset:c.H.set l (.iter m n seen)=c.H:=by
   have hl':=(List.getElem?_eq_some_iff.1 hi)
   obtain ⟨h1,h2⟩:=hl'
   rw [← h2]
   exact List.set_getElem_self h1
  refine ⟨.tuple #[.bool false],w1,(.tup [.bool false],seen),?_,?_,?_⟩
  ·simp only [Instr.next,Sem.run_bind,r1,r2,Result.andThen_ok,hall,Bool.false_eq_true,if_false,Sem.run_pure,hold,hnew,hcd,q1,hj,hx]
  ·simp only [nextValsD,hq]
   simp
  ·simp only
   rw [hset]
   refine ⟨hs1,ht1,hb,?_⟩
   simp only [Rel,RelL]
   exact ⟨_,rfl,_,_,rfl,rfl,rfl⟩
 | some e =>
  have hmem:some e∈cand:=hx ▸ Array.getElem_mem q2
  rw [← hcd] at hmem
  have hmemL:e∈L0∧e.born ∉ seen:=by
   have h1:e∈old∨e∈new:=by
    by_cases h:old.isEmpty=true<;>simpa [h] using hmem
   rw [← hold,← hnew] at h1
   simp only [Array.mem_filter] at h1
   rcases h1 with ⟨⟨h1,h2⟩,_⟩ | ⟨⟨h1,h2⟩,_⟩<;>exact ⟨by simpa using h1,by simpa using h2⟩
  obtain ⟨i,hine,hLi⟩:=hmemD e hmemL.1
  have hi':=(List.getElem?_eq_some_iff.1 hLi).1
  have hbi:=hborn i e hLi
  obtain ⟨pv,hp1,hp2,hp3⟩:=(k2.at i e hLi).2
  have g1':w1.heap[b]? = some (.mapIter (some d) n seen.toArray n):=by rw [q3];exact g1
  obtain ⟨z1,z2,z3,z4⟩:=set_obj (base:=base) (c:=⟨w1,c.ρ,c.H⟩) (y:=.mapIter (some d) n (seen.toArray.push e.born) n) (a:=.iter m n (seen++[i])) hs1 hb hl hi g1' (by simp) (by simp [Kind])
   (fun c' hx' hy=>by
    obtain ⟨x',h4,h5⟩:=hx'.kind _ _ hm
    exact ⟨d,by rw [hy,hbi];simp,hx'.same _ _ _ hm g2 (by simp),x',h4,h5.mp rfl⟩) (fun N hN=>hN)
  refine ⟨.tuple #[.bool true,e.key,e.val],_,(.tup [.bool true,pv.1,pv.2],seen++[i]),?_,?_,z2,ht1.trans z3,z4,?_⟩
  ·simp only [Instr.next,Sem.run_bind,r1,r2,Result.andThen_ok,hall,Bool.false_eq_true,if_false,Sem.run_pure,hold,hnew,hcd,q1,hj,hx,z1]
  ·have hq:i∈(List.range es.length).filter (fun i=>!seen.contains i&&i != dd):=by
    rw [List.mem_filter,List.mem_range]
    refine ⟨by omega,?_⟩
    rw [hbi] at hmemL
    simp only [Bool.and_eq_true,bne_iff_ne,ne_eq]
    exact ⟨by simpa using hmemL.2,hine⟩
   simp only [nextValsD]
   split
   ·rename_i e0;rw [e0] at hq;simp at hq
   ·refine List.mem_map.2 ⟨i,hq,?_⟩
    have:es.getD i (.undef,.undef)=pv:=by simp [hp1]
    rw [this]
  ·have hx2:=(ht1.trans z3).ext
   simp only [Rel,RelL]
   exact ⟨_,rfl,_,_,rfl,rfl,_,_,rfl,Rel.ext hx2 _ _ hp2,_,_,rfl,Rel.ext hx2 _ _ hp3,rfl⟩
theorem next_ok (ok:Ok C P) {opl:Array Oper} {s:St} {alts:List St} (h:nextOf C opl.toList s=some alts) (f:FOk P B c F s tm df rd k) (hdst:∀ o∈opl.toList,dstOk tm.size o) (u:Up) (m:FrameMode) :
  0<opl.size∧∃ s'∈alts,∃ c' tm',tm'.size=tm.size∧s'.pan=s.pan ∧
   step P (lone (frm F tm (.inRegion opl (List.range' 0 (opl.size-0))::k) df .run u rd) (u.cs m) c.w)=.next (lone (frm F tm' (.inRegion opl (List.range' 1 (opl.size-1))::k) df .run u rd) (u.cs m) c'.w) ∧
   FOk P B c' F s' tm' df rd k∧Tr F.base c c':=by
 unfold nextOf at h
 split at h
 ·rename_i o r hall
  have hsz:0<opl.size:=by
   have:=congrArg List.length hall
   simp at this;omega
  have ho:opl[0]? = some o:=by
   have:=congrArg (·[0]?) hall
   simpa using this
  have hmem:o∈opl.toList:=by rw [hall];simp
  split at h
  ·rename_i it hop hg
   split at h
   ·rename_i l hit
    split at h
    ·rename_i mm n seen hi
     split at h
     ·rename_i kt es hm
      split at h
      ·rename_i hn
       cases h
       rw [← f.hH] at hi hm
       have hr:=rel_opd (a:=Act.mk tm df) ok f.sim.glob f.env it
       rw [hit] at hr
       simp only [Rel] at hr
       obtain ⟨b,hb,_,hV⟩:=hr
       obtain ⟨V,w',p,h1,h2,h3,h4,h5,h6⟩:=next_run (P:=P) (base:=F.base) f.sim f.hb hb hi hm hn o.type
       refine ⟨hsz,_,List.mem_map_of_mem h2,⟨w',c.ρ,c.H.set l (.iter mm n p.2)⟩,putT tm o.dst V,zBf ..,rfl,?_,?_,h4⟩
       ·have hw:Region.wanted o (yielded opl tm)=true:=by simp [Region.wanted,hg]
        have hrun:(execOp (Act.mk tm df).eval o).run P c.w=.ok (.value V) w':=by
         simp only [execOp,hop,hV]
         exact v_run _ h1
        have:=step_value (P:=P) (u:=u) (F:=F) (df:=df) (rd:=rd) (k:=k) (cs:=u.cs m) 0 (List.range' 1 (opl.size-1)) ho hw (.inr (by rw [hop];simp)) hrun (.inl rfl)
        rw [show opl.size-0=(opl.size-1)+1 by omega,List.range'_succ]
        exact this
       ·exact f.put h4.ext h3 h5 (by rw [f.hH]) h6 (hdst o hmem)
      ·cases h
     ·rename_i kt es dd hm
      split at h
      ·rename_i hn
       cases h
       rw [← f.hH] at hi hm
       have hr:=rel_opd (a:=Act.mk tm df) ok f.sim.glob f.env it
       rw [hit] at hr
       simp only [Rel] at hr
       obtain ⟨b,hb,_,hV⟩:=hr
       obtain ⟨V,w',p,h1,h2,h3,h4,h5,h6⟩:=next_runD (P:=P) (base:=F.base) f.sim f.hb hb hi hm hn o.type
       refine ⟨hsz,_,List.mem_map_of_mem h2,⟨w',c.ρ,c.H.set l (.iter mm n p.2)⟩,putT tm o.dst V,zBf ..,rfl,?_,?_,h4⟩
       ·have hw:Region.wanted o (yielded opl tm)=true:=by simp [Region.wanted,hg]
        have hrun:(execOp (Act.mk tm df).eval o).run P c.w=.ok (.value V) w':=by
         simp only [execOp,hop,hV]
         exact v_run _ h1
        have:=step_value (P:=P) (u:=u) (F:=F) (df:=df) (rd:=rd) (k:=k) (cs:=u.cs m) 0 (List.range' 1 (opl.size-1)) ho hw (.inr (by rw [hop];simp)) hrun (.inl rfl)
        rw [show opl.size-0=(opl.size-1)+1 by omega,List.range'_succ]
        exact this
       ·exact f.put h4.ext h3 h5 (by rw [f.hH]) h6 (hdst o hmem)
      ·cases h
     ·cases h
    ·cases h
   ·cases h
  ·cases h
 ·cases h
def LeaveOk (C:Cfg) (P:Program) (B n:Nat):Prop:=∀ F jump s d,leave C P n F jump s=some d→∀ c tm df rd todo (u:Up) m V,FOk P B c F s tm df rd []→u.isDfd=F.dfd→PanM V s.pan m→Pans c V s.pan→(∀ j,jump=some j→jumpOk j=true)→∀ K,KOk C F K c →
  ((jump=none∨jump=some .ret)→∀ cs w,step P (lone (frm F tm todo df .run u none) cs w)=.next (lone (frm F tm todo df .returning u none) cs w)) →
  (∀ b cs w v w',(Instr.endRound b jump).run P w=.ok v w'→(stepG P true { frame:=frm F tm todo df .run u (some b),callers:=cs,status:=.running,dying:=none } w).bare=(doReturn P true (frm F tm todo df .run u (some b)) cs none v w').bare) →
  Fin P B K F.base c d (frm F tm todo df .run u rd) u m s.pan V
theorem leaveOk {n:Nat} (ihU:UnwOk C P B n):LeaveOk C P B (n+1):=by
 intro F jump s d h c tm df rd todo u m V f hu hm hp hj K hK h1 h2
 exact leave_ok ihU h f hu hm hp hK hj h1 h2
theorem exec_ok (ok:Ok C P) {n:Nat} (ihE:ExecOk C P B n) (ihE':∀ n',n=n'+1→ExecOk C P B n') (ihU:UnwOk C P B n) (ihO:OpsOk C P B n) (ihD:DrawnOk C P B n) (ihL:EndOk C P B n) (ihV:LeaveOk C P B n) (ihC:CallOk C P B n):ExecOk C P B (n+1):=by
 intro F todo s d h c tm df rd u m V f hu hm hp K hK
 change Fin P B K F.base c d (frm F tm todo df .run u rd) u m s.pan V
 have next:∀ {todo':List Item},exec C P n F todo' s=some d→(∀ cs w,step P (lone (frm F tm todo df .run u rd) cs w)=.next (lone (frm F tm todo' df .run u rd) cs w)) →
   (∀ N,(∀ it∈todo,zBn N it)→∀ it∈todo',zBn N it)→Fin P B K F.base c d (frm F tm todo df .run u rd) u m s.pan V:=by
  intro todo' h' hs hi
  exact Fin.head hK.le (.one (hs _ _)) (TrB.refl _ _ _) ⟨rfl,rfl,rfl⟩ rfl (ihE F todo' s d h' c tm df rd u m V (f.todo fun fn _ h=>hi fn.ntmps h) hu hm hp K hK)
 have out:∀ {jump:Option Code},leave C P n F jump s=some d→(∀ j,jump=some j→jumpOk j=true) →
   ((jump=none∨jump=some .ret)→∀ cs w,step P (lone (frm F tm todo df .run u none) cs w)=.next (lone (frm F tm todo df .returning u none) cs w)) →
   (∀ b cs w v w',(Instr.endRound b jump).run P w=.ok v w'→(stepG P true { frame:=frm F tm todo df .run u (some b),callers:=cs,status:=.running,dying:=none } w).bare=(doReturn P true (frm F tm todo df .run u (some b)) cs none v w').bare) →
   Fin P B K F.base c d (frm F tm todo df .run u rd) u m s.pan V:=by
  intro jump h' hj h1 h2
  exact ihV F jump s d h' c tm df rd todo u m V (f.todo fun _ _ _=>by simp) hu hm hp hj K hK h1 h2
 cases todo with
 | nil =>
  simp only [exec] at h
  exact out h (by simp) (fun _ cs w=>step_lone_go (by simp [stepG,stepG.exec,frm])) (fun b cs w v w' hr=>by simp [stepG,stepG.exec,frm,hr])
 | cons it k =>
  cases it with
  | inBlock id =>
   simp only [exec] at h
   exact next h (fun cs w=>st_inBlock) (fun N hall it hi=>hall it (by simp [hi]))
  | inLoop x =>
   simp only [exec] at h
   refine next h (fun cs w=>st_inLoop) (fun N hall it hi=>?_)
   have hx:=hall (.inLoop x) (by simp)
   rcases List.mem_cons.1 hi with rfl | hi
   ·exact hx
   ·rcases List.mem_cons.1 hi with rfl | hi
    ·exact hx
    ·exact hall it (by simp [hi])
  | inScope x =>
   simp only [exec] at h
   exact next h (fun cs w=>st_inScope) (fun N hall it hi=>hall it (by simp [hi]))
  | inRegion _ _=>simp [exec] at h
  | inRangeFunc _=>simp [exec] at h
  | endRangeFunc _=>simp [exec] at h
  | call _ _ _ _=>simp [exec] at h
  | extern _ _=>simp [exec] at h
  | beginRound =>
   simp only [exec] at h
   split at h
   ·rename_i l hr
    split at h
    ·rename_i r hl
     split at h
     ·rename_i hrd
      have hrdd:=f.rd
      rw [hr] at hrdd
      cases rd with
      | none=>exact hrdd.elim
      | some b =>
       obtain ⟨g1,g2,r0,g3⟩:=hrdd
       rw [← f.hH,g3] at hl
       cases hl
       obtain ⟨o,ho,hro⟩:=f.sim.obj l b g1
       rw [g3] at ho
       cases ho
       obtain ⟨tmps,dd,k1,k2,⟨fn,k3,k4,k5,k6,k7,k8⟩,k9,x,k10,k11⟩:=hro
       obtain ⟨q1,q2,q3,q4⟩:=set_obj (y:=.loop ⟨.busy,r.pending,r.fn,tmps,r.params,r.assign,r.body,dd⟩) (a:=.loop { r with state:=.busy })
        f.sim f.hb g1 g3 k1 (by simp) (by simp [Kind]) (fun c' hx hy=>by
         obtain ⟨x',k12,k13⟩:=hx.kind _ _ k10
         exact ⟨tmps,dd,hy,k2.ext hx,⟨fn,k3,k4,k5,k6,k7,k8⟩,hx.same _ _ x k10 k9 (by rintro _ _ rfl;exact k11),x',k12,k11.trans k13⟩) (fun N hN=>hN)
       have hrun:=beginRound_run (P:=P) k1 hrd q1
       have f2:=(f.todo (k':=k) (fun _ _ hall it hi=>hall it (by simp [hi]))).heap q3.ext q2 q4 (H':=s.H.set l (.loop { r with state:=.busy })) (by simp only [Cx.wr,f.hH])
       have:=ihE F k _ d h _ tm df (some b) u m V f2 hu hm (hp.ext q3.ext) K (hK.tr (q3.below (tb:=K)))
       exact Fin.head hK.le (.one (st_beginRound hrun)) q3.below ⟨rfl,rfl,rfl⟩ rfl this
     ·cases h
    ·cases h
   ·cases h
  | code x =>
   cases x with
   | skip =>
    simp only [exec] at h
    exact next h (fun cs w=>st_skip) (fun N hall it hi=>hall it (by simp [hi]))
   | label l =>
    simp only [exec] at h
    exact next h (fun cs w=>st_label) (fun N hall it hi=>hall it (by simp [hi]))
   | ret =>
    simp only [exec] at h
    exact out h (by rintro j ⟨⟩;rfl) (fun _ cs w=>step_lone_go (by simp [stepG,stepG.exec,frm])) (fun b cs w v w' hr=>by simp [stepG,stepG.exec,frm,hr])
   | seq x y =>
    simp only [exec] at h
    refine next h (fun cs w=>st_seq) (fun N hall it hi=>?_)
    have hx:=hall (.code (.seq x y)) (by simp)
    simp only [zBn,codeOk,Bool.and_eq_true] at hx
    rcases List.mem_cons.1 hi with rfl | hi
    ·exact hx.1
    ·rcases List.mem_cons.1 hi with rfl | hi
     ·exact hx.2
     ·exact hall it (by simp [hi])
   | block id x =>
    simp only [exec] at h
    refine next h (fun cs w=>st_block) (fun N hall it hi=>?_)
    have hx:=hall (.code (.block id x)) (by simp)
    rcases List.mem_cons.1 hi with rfl | hi
    ·exact hx
    ·rcases List.mem_cons.1 hi with rfl | hi
     ·trivial
     ·exact hall it (by simp [hi])
   | loop x =>
    simp only [exec] at h
    cases n with
    | zero=>simp [exec] at h
    | succ n' =>
     simp only [exec] at h
     have hall:∀ fn:Func,(∀ it∈Item.code (.loop x)::k,zBn fn.ntmps it)→∀ it∈Item.code x::.inLoop x::k,zBn fn.ntmps it:=by
      intro fn hall it hi
      have hx:=hall (.code (.loop x)) (by simp)
      rcases List.mem_cons.1 hi with rfl | hi
      ·exact hx
      ·rcases List.mem_cons.1 hi with rfl | hi
       ·exact hx
       ·exact hall it (by simp [hi])
     exact Fin.head hK.le (.one st_loop) (TrB.refl _ _ _) ⟨rfl,rfl,rfl⟩ rfl (ihE' n' rfl F _ s d h c tm df rd u m V (f.todo fun fn _ h=>hall fn h) hu hm hp K hK)
   | scope x =>
    simp only [exec] at h
    refine next h (fun cs w=>st_scope) (fun N hall it hi=>?_)
    have hx:=hall (.code (.scope x)) (by simp)
    rcases List.mem_cons.1 hi with rfl | hi
    ·exact hx
    ·rcases List.mem_cons.1 hi with rfl | hi
     ·exact hx
     ·exact hall it (by simp [hi])
   | cond x y z =>
    simp only [exec] at h
    have hx:=rel_opd (a:=Act.mk tm df) ok f.sim.glob f.env x
    split at h
    ·rename_i hv
     rw [hv] at hx
     simp only [Rel] at hx
     refine next h (fun cs w=>by simpa using st_cond (k:=k) hx) (fun N hall it hi=>?_)
     have hx:=hall (.code (.cond x y z)) (by simp)
     simp only [zBn,codeOk,Bool.and_eq_true] at hx
     rcases List.mem_cons.1 hi with rfl | hi
     ·exact hx.1
     ·exact hall it (by simp [hi])
    ·rename_i hv
     rw [hv] at hx
     simp only [Rel] at hx
     refine next h (fun cs w=>by simpa using st_cond (k:=k) hx) (fun N hall it hi=>?_)
     have hx:=hall (.code (.cond x y z)) (by simp)
     simp only [zBn,codeOk,Bool.and_eq_true] at hx
     rcases List.mem_cons.1 hi with rfl | hi
     ·exact hx.2
     ·exact hall it (by simp [hi])
    ·cases h
   | exit id =>
    simp only [exec] at h
    split at h
    ·rename_i k' hk
     exact next h (fun cs w=>st_exit hk) (fun N hall it hi=>exit_items id k k' hk (fun it hi=>hall it (by simp [hi])) it hi)
    ·rename_i hk
     exact out h (by rintro j ⟨⟩;rfl) (fun hj=>by simp at hj) (fun b cs w v w' hr=>by simp [stepG,stepG.exec,frm,hr,hk])
   | goto l =>
    simp only [exec] at h
    split at h
    ·rename_i k' hk
     exact next h (fun cs w=>st_goto hk) (fun N hall it hi=>goto_items l k k' hk (fun it hi=>hall it (by simp [hi])) it hi)
    ·rename_i hk
     exact out h (by rintro j ⟨⟩;rfl) (fun hj=>by simp at hj) (fun b cs w v w' hr=>by simp [stepG,stepG.exec,frm,hr,hk])
   | refuse why=>simp [exec] at h
   | rangeFunc g params assign body=>exact rangeFunc_ok ok ihL ihC h f hu hm hp hK
   | region id opl draw =>
    simp only [exec] at h
    split at h
    ·cases h
    ·rename_i s1 hg
     obtain ⟨c1,f1,hw,ht,hpan,hps⟩:=gc_ok hg f hK
     have hK1:=hK.tr ht
     have hp1:=hps V hp
     obtain ⟨fn,hfn,hsz,hit⟩:=f.fn
     have hdst:∀ o∈opl.toList,dstOk tm.size o:=by
      rw [hsz];exact region_dst (hit (.code (.region id opl draw)) (by simp))
     have fk:FOk P B c1 F s1 tm df rd k:=f1.todo (fun _ _ hall it hi=>hall it (by simp [hi]))
     have hm1:PanM V s1.pan m:=by rw [hpan];exact hm
     split at h
     ·rename_i hdraw
      subst hdraw
      have fin:∀ r,drawn C P n F id opl s1=some r→(∀ s',r=.ok s'→exec C P n F k s'=some d)→(∀ v s',r=.pan v s'→unw C P n F (some (v,false)) s'=some d)→Fin P B K F.base c d (frm F tm (.code (.region id opl true)::k) df .run u rd) u m s.pan V:=by
       intro r hr h h'
       have:=ops_then ihE ihU (fr:=frm F tm (.code (.region id opl true)::k) df .run u rd) ⟨rfl,rfl,rfl⟩ hu (ihD F id opl s1 r hr k c1 tm df rd u m V hdst fk hu hm1 hp1) hK1 h h'
       exact Fin.head hK.le (by rw [hw];exact Steps.refl _ _) ht ⟨rfl,rfl,rfl⟩ (by rw [hpan]) this
      split at h
      ·rename_i s' hr;exact fin _ hr (fun _ e=>by cases e;exact h) (fun _ _ e=>by cases e)
      ·rename_i v s' hr;exact fin _ hr (fun _ e=>by cases e) (fun _ _ e=>by cases e;exact h)
      ·cases h
     ·rename_i hdraw
      have hdraw:draw=false:=by simpa using hdraw
      subst hdraw
      have fin:∀ r,ops C P n F opl.toList opl.toList s1=some r→(∀ s',r=.ok s'→exec C P n F k s'=some d)→(∀ v s',r=.pan v s'→unw C P n F (some (v,false)) s'=some d)→Fin P B K F.base c d (frm F tm (.code (.region id opl false)::k) df .run u rd) u m s.pan V:=by
       intro r hr h h'
       have:=ops_then ihE ihU (fr:=frm F tm (.inRegion opl (List.range' 0 (opl.size-0))::k) df .run u rd) ⟨rfl,rfl,rfl⟩ hu (ihO F _ _ s1 r hr opl 0 k c1 tm df rd u m V rfl rfl hdst fk hu hm1 hp1) hK1 h h'
       exact Fin.head hK.le (fr1:=frm F tm (.inRegion opl (List.range' 0 (opl.size-0))::k) df .run u rd) (m1:=m) (p1:=s1.pan) (by rw [hw];exact .one st_region) ht ⟨rfl,rfl,rfl⟩ (by rw [hpan]) this
      split at h
      ·split at h
       rotate_left
       ·cases h
       rename_i l hnx
       obtain ⟨hsz,s',hs',c2,tm2,e1,e2,e3,e4,e5⟩:=next_ok ok hnx fk hdst u m
       have h:=(oneOf_some.1 h).2 _ (List.mem_map_of_mem hs')
       have hps2:Pans c2 V s'.pan:=by rw [e2];exact hp1.ext e5.ext
       have fin2:∀ r,ops C P n F opl.toList opl.toList.tail s'=some r→(∀ s'',r=.ok s''→exec C P n F k s''=some d)→(∀ v s'',r=.pan v s''→unw C P n F (some (v,false)) s''=some d)→Fin P B K F.base c d (frm F tm (.code (.region id opl false)::k) df .run u rd) u m s.pan V:=by
        intro r hr h h'
        have:=ops_then ihE ihU (fr:=frm F tm2 (.inRegion opl (List.range' 1 (opl.size-1))::k) df .run u rd) ⟨rfl,rfl,rfl⟩ hu (ihO F _ _ s' r hr opl 1 k c2 tm2 df rd u m V rfl (by simp) (fun o ho=>e1 ▸ hdst o ho) e4 hu (by rw [e2];exact hm1) hps2) (hK1.tr (e5.below (tb:=K))) h h'
        exact Fin.head hK.le (fr1:=frm F tm2 (.inRegion opl (List.range' 1 (opl.size-1))::k) df .run u rd) (m1:=m) (p1:=s'.pan) (by rw [hw] at e3;exact .head st_region (.one e3)) (ht.trans hK.le e5.below) ⟨rfl,rfl,rfl⟩ (by rw [e2,hpan]) this
       split at h
       ·rename_i s'' hr;exact fin2 _ hr (fun _ e=>by cases e;exact h) (fun _ _ e=>by cases e)
       ·rename_i v s'' hr;exact fin2 _ hr (fun _ e=>by cases e) (fun _ _ e=>by cases e;exact h)
       ·cases h
      split at h
      ·rename_i s' hr;exact fin _ hr (fun _ e=>by cases e;exact h) (fun _ _ e=>by cases e)
      ·rename_i v s' hr;exact fin _ hr (fun _ e=>by cases e) (fun _ _ e=>by cases e;exact h)
      ·cases h
section
variable (C:Cfg) (P:Program) (B:Nat)
def KSound (a:KSt) (Q:Done→Prop):Prop:=match a with
 | .exec F todo s=>∀ c tm df rd (u:Up) m V,FOk P B c F s tm df rd todo→u.isDfd=F.dfd→PanM V s.pan m→Pans c V s.pan→∀ K,KOk C F K c→∃ d,Q d∧Fin P B K F.base c d (frm F tm todo df .run u rd) u m s.pan V
 | .ops F all rest k s=>∀ (opl:Array Oper) i c tm df rd (u:Up) m V,all=opl.toList→rest=all.drop i→(∀ o∈all,dstOk tm.size o)→FOk P B c F s tm df rd k→u.isDfd=F.dfd→PanM V s.pan m→Pans c V s.pan→∀ K,KOk C F K c →
   ∃ d,Q d∧Fin P B K F.base c d (frm F tm (.inRegion opl (List.range' i (opl.size-i))::k) df .run u rd) u m s.pan V
 | .endL F k L s1 d1=>∀ (c c1:Cx) (tm:Array Value) df1 rd (u:Up) m V fr0 frS b,(frS.kind=u.kind∧frS.fn=F.fn∧frS.roundOf=rd) →
   Steps P (lone frS (u.cs m) c.w) (lone fr0 (frm F tm (.inRangeFunc b::k) df1 .run u rd::u.cs m) c1.w)→∀ K,KOk C F K c→TrB K F.base c c1→FOk P B c1 F { s1 with H:=c1.H } tm df1 rd k→u.isDfd=F.dfd→PanM V s1.pan m→Pans c1 V s1.pan →
   c1.ρ L=some b→(∃ r,c1.H[L]? = some (.loop r))→fr0.kind=.normal →
   Fin P B c1.H.length F.base c1 d1 fr0 (.plain (frm F tm (.inRangeFunc b::k) df1 .run u rd::u.cs m)) .returning none Go.undef→∃ d,Q d∧Fin P B K F.base c d frS u m s1.pan V
 | .call g x H=>(∃ fn:Func,P.funcs[g]? = some fn∧fn.name ≠ "runtime.NumGoroutine" ∧ fn.body.isSome=true) ∧
   ∀ base c vs (u:Up) m V,c.H=H→Sim P B c→HB base c.H→B≤c.w.heap.size→RelL c x vs→u.isDfd=false→PanM V none m→∃ d,Q d∧Fin P B c.H.length base c d (Frame.enter P g vs.toArray u.kind) u m none V
 | .fin d=>Q d
 | .stuck=>False
def KSoundR (r:KR) (Q:Done→Prop):Prop:=match r with
 | .done d=>Q d
 | .alts l=>l≠[]∧∀ b∈l,KSound C P B b Q
 | .call b r=>∃ R,KSound C P B b R∧∀ d,R d→KSound C P B (r d) Q
 | .none=>False
end
theorem ksAlt {a:KSt} {Q:Done→Prop} (h:KSoundR C P B (.alts [a]) Q):KSound C P B a Q:=h.2 a (List.mem_singleton.2 rfl)
theorem kFn_some {f:Fn} {g:FuncId} (h:kFn C f=some g):f=.func g:=by
 unfold kFn at h
 split at h
 ·split at h
  ·cases h;rfl
  ·cases h
 ·cases h
theorem kEnter {g:FuncId} {x y:List AV} {H:Heap} {R:Done→Prop} (h:KSound C P B (.call g (x++y) H) R) {base:Nat} {c:Cx} {t:Deferred} {u:Up} {m:FrameMode} {V:Value}
  (hH:c.H=H) (hs:Sim P B c) (hb:HB base c.H) (hB:B≤c.w.heap.size) (hr:RelT c (.func g) x y t) (hu:u.isDfd=false) (hm:PanM V none m) :
  ∃ nx fr,(invoke t.target t.args).run P c.w=.ok nx c.w∧Entry P nx u.kind fr∧∃ d,R d∧Fin P B c.H.length base c d fr u m none V:=by
 obtain ⟨⟨fn,h1,h2,h3⟩,h4⟩:=h
 obtain ⟨g',k',htg,hf,hx,hk⟩:=hr
 simp only [RelFn] at hf
 subst hf
 rw [htg]
 exact ⟨_,_,by simp only [invoke];exact callFunc_run h1 h2 h3 _ _,.inl ⟨_,_,rfl,rfl⟩,h4 base c (t.args++k').toList u m V hH hs hb hB (by simpa using hx.append hk) hu hm⟩
theorem kOps {Q:Done→Prop} {opl:Array Oper} {s':St} {fr:Frame} {m:FrameMode} {V:Value} (h:KSound C P B (.exec F k s') Q) (hfr:fr.kind=u.kind∧fr.fn=F.fn∧fr.roundOf=rd) (hu:u.isDfd=F.dfd)
  (ho:OpsFin P B F c u rd fr m V s opl k (.ok s')) {K:Nat} (hK:KOk C F K c):∃ d,Q d∧Fin P B K F.base c d fr u m s.pan V:=by
 obtain ⟨c',tm',df',m',h1,h2,h3,h4,h5,h6⟩:=ho
 obtain ⟨d,hq,hf⟩:=h c' tm' df' rd u m' V h2 hu h4 h5 K (hK.tr (h3.up hK.2.2))
 exact ⟨d,hq,Fin.head hK.le (h1.trans (.one step_regionEnd)) (h3.up hK.2.2) ⟨hfr.1.symm,hfr.2.1.symm,hfr.2.2.symm⟩ h6 hf⟩
theorem kRange_ok (ok:Ok C P) {Q:Done→Prop} {f:Operand} {params:Array Tmp} {assign body:Code} {m:FrameMode} {V:Value}
  (h:KSoundR C P B (kRange C F params assign body k s.env s.dfr s.H s.pan (opd C s.env f)) Q) (g:FOk P B c F s tm df rd (.code (.rangeFunc f params assign body)::k)) (hu:u.isDfd=F.dfd) (hm:PanM V s.pan m) (hp:Pans c V s.pan) {K:Nat} (hK:KOk C F K c) :
  ∃ d,Q d∧Fin P B K F.base c d (frm F tm (.code (.rangeFunc f params assign body)::k) df .run u rd) u m s.pan V:=by
 obtain ⟨fn,hfn,hsz,hit⟩:=g.fn
 have hitem:=hit _ (List.mem_cons_self ..)
 have gk:FOk P B c F s tm df rd k:=g.todo (fun _ _ hall it hi=>hall it (List.mem_cons_of_mem _ hi))
 unfold kRange at h
 split at h
 rotate_left
 ·exact h.elim
 rename_i fv first cap hf
 split at h
 rotate_left
 ·exact h.elim
 rename_i g0 hg0 hr
 cases kFn_some hg0
 obtain ⟨R,hcall,hend⟩:=h
 have hrd:=rdNone g.rd hr
 subst hrd
 have t0:=new_tr (base:=F.base) g.sim (.deferred (some [])) .dfr
 have s0:=new_sim (a:=.dfr) g.sim g.lo (o:=.deferred (some [])) (show RelO P _ _ .dfr from Array.getElem?_push_size)
 have b0:HB F.base (c.new (.deferred (some [])) .dfr).H:=new_hb g.hb rfl
 have hD:(c.new (.deferred (some [])) .dfr).ρ c.H.length=some c.w.heap.size:=by simp [Cx.new]
 have hDo:(c.new (.deferred (some [])) .dfr).H[c.H.length]? = some .dfr:=by simp [Cx.new]
 have f0:FOk P B (c.new (.deferred (some [])) .dfr) F { s with H:=(c.new (.deferred (some [])) .dfr).H } tm df none k:=gk.heap t0.ext s0 b0 rfl
 obtain ⟨s1,t1,b1⟩:=newLoop_ok (s:=s) f0.sim f0.hb f0.lo f0.env f0.elt hfn hsz hitem hD hDo (by simp [Kind])
 have f1:=f0.heap t1.ext s1 b1 rfl
 rw [← g.hH] at hcall hend
 generalize hc1:(c.new (.deferred (some [])) .dfr).new (.loop ⟨.ready,none,F.fn,tm,params,assign,body,c.w.heap.size⟩) (.loop ⟨.ready,none,F.fn,s.env,params,assign,body,c.H.length⟩)=c1 at f1 t1
 have ht:Tr F.base c c1:=t0.trans t1
 have hH1:c1.H=c.H++[.dfr,.loop ⟨.ready,none,F.fn,s.env,params,assign,body,c.H.length⟩]:=by rw [← hc1];simp [Cx.new]
 have hrun:(Instr.enterLoop F.fn tm params assign body none).run P c.w=.ok (c.w.heap.size+1,[{ target:=.collected c.w.heap.size,args:=#[] }]) c1.w:=by
  rw [← hc1]
  simp only [Instr.enterLoop,Sem.run_bind,newObj_run,Result.andThen_ok,Sem.run_pure,Cx.new,Array.size_push]
 have hL:c1.ρ (c.H.length+1)=some (c.w.heap.size+1):=by rw [← hc1];simp [Cx.new]
 have hLo:∃ r,c1.H[c.H.length+1]? = some (.loop r):=⟨⟨.ready,none,F.fn,s.env,params,assign,body,c.H.length⟩,by rw [← hc1];simp [Cx.new]⟩
 have f2:FOk P B c1 F { env:=s.env,dfr:=.collected c.H.length::s.dfr,H:=c1.H,pan:=s.pan } tm ([{ target:=.collected c.w.heap.size,args:=#[] }]++df) none k:=by
  refine { f1 with dfr:=?_ }
  simp only [List.cons_append,List.nil_append,RelD]
  exact ⟨_,_,rfl,t1.ext.same _ _ _ hDo hD (by simp),(t1.ext.kind _ _ hDo).elim fun x hx=>⟨x,hx.1,hx.2⟩,f1.dfr⟩
 have hF:=rel_opd (a:=Act.mk tm df) ok f2.sim.glob f2.env f
 simp only [hf,Rel] at hF
 obtain ⟨g',a',b',hF,r1,r2,r3⟩:=hF
 have hres:(resolve (Act.mk tm df).eval { callee:=.value f,args:=#[.const (.func (.yield (c.w.heap.size+1)) #[] #[])],argTypes:=#[] } 0).run P c1.w=.ok ⟨.fn g' b',a'++#[.func (.yield (c.w.heap.size+1)) #[] #[]]⟩ c1.w:=by
  have hm:(#[.const (.func (.yield (c.w.heap.size+1)) #[] #[])]:Array Operand).map (Act.mk tm df).eval=#[.func (.yield (c.w.heap.size+1)) #[] #[]]:=by simp [Act.eval]
  simp only [resolve,hF,Deferred.ofValue,hm,Sem.run_pure]
 have hT:RelT c1 (.func g0) (first++[.func (.yield (c.H.length+1)) [] []]) cap ⟨.fn g' b',a'++#[.func (.yield (c.w.heap.size+1)) #[] #[]]⟩:=by
  refine ⟨g',b',rfl,r1,?_,r3⟩
  simp only [Array.toList_append]
  refine r2.append ?_
  simp only [RelL,Rel,RelFn]
  exact ⟨_,[],rfl,⟨.yield _,#[],#[],rfl,⟨_,hL,hLo,rfl⟩,rfl,rfl⟩,rfl⟩
 obtain ⟨nx,fr0,h1,h2,d1,hR,h3⟩:=kEnter (base:=F.base) (u:=.plain (frm F tm (.inRangeFunc (c.w.heap.size+1)::k) ([{ target:=.collected c.w.heap.size,args:=#[] }]++df) .run u none::u.cs m)) (m:=.returning) (V:=Go.undef) hcall hH1 f2.sim f2.hb f2.lo hT rfl rfl
 have hst:step P (lone (frm F tm (.code (.rangeFunc f params assign body)::k) df .run u none) (u.cs m) c.w)=.next (lone fr0 (frm F tm (.inRangeFunc (c.w.heap.size+1)::k) ([{ target:=.collected c.w.heap.size,args:=#[] }]++df) .run u none::u.cs m) c1.w) :=
  st_range hrun (by simp only [Sem.run_bind,hres,Result.andThen_ok];exact h1) h2
 have hk:fr0.kind=.normal:=by rcases h2 with ⟨_,_,_,rfl⟩ | ⟨_,_,_,_,_,_,rfl⟩<;>rfl
 exact hend d1 hR c c1 tm _ none u m V fr0 _ _ ⟨rfl,rfl,rfl⟩ (.one hst) K hK ht.below f2 hu hm (hp.ext ht.ext) hL hLo hk h3
theorem kOpsStep (ok:Ok C P) {n:Nat} (ihC:CallOk C P B n) {Q:Done→Prop} {all rest:List Oper} (h:KSoundR C P B (zAn C P (kX C P n) (.ops F all rest k s)) Q):KSound C P B (.ops F all rest k s) Q:=by
 intro opl i c tm df rd u m V hall hrest hdst f hu hm hp K hK
 subst hall
 simp only [zAn] at h
 cases rest with
 | nil =>
  have h':=ksAlt h
  have hle:opl.size≤i:=by
   have:=congrArg List.length hrest
   simp at this;omega
  rw [show opl.size-i=0 by omega]
  exact kOps (opl:=opl) h' ⟨rfl,rfl,rfl⟩ hu ⟨c,tm,df,m,Steps.refl _ _,f,TrA.refl _ _,hm,hp,rfl⟩ hK
 | cons o rest =>
  have hlt:i<opl.size:=by
   refine Nat.lt_of_not_le fun hle=>?_
   rw [List.drop_eq_nil_of_le (by simpa using hle)] at hrest
   cases hrest
  have ho:opl[i]? = some o:=by
   have:=congrArg (·[0]?) hrest
   simp at this
   exact this.symm
  have hrest':rest=opl.toList.drop (i+1):=by
   have:=congrArg List.tail hrest
   simpa using this
  have hmem:o∈opl.toList:=by
   rw [Array.getElem?_eq_some_iff] at ho
   obtain ⟨h1,rfl⟩:=ho
   exact Array.getElem_mem_toList h1
  have hd:=hdst o hmem
  rw [show opl.size-i=(opl.size-(i+1))+1 by omega,List.range'_succ]
  simp only at h
  have go:∀ {c1:Cx} {s1:St} {tm1:Array Value},KSound C P B (.ops F opl.toList rest k s1) Q→tm1.size=tm.size →
    Steps P (lone (frm F tm (.inRegion opl (i::List.range' (i+1) (opl.size-(i+1)))::k) df .run u rd) (u.cs m) c.w) (lone (frm F tm1 (.inRegion opl (List.range' (i+1) (opl.size-(i+1)))::k) df .run u rd) (u.cs m) c1.w) →
    FOk P B c1 F s1 tm1 df rd k→TrA F.base c c1→s1.pan=s.pan→Pans c1 V s.pan →
    ∃ d,Q d∧Fin P B K F.base c d (frm F tm (.inRegion opl (i::List.range' (i+1) (opl.size-(i+1)))::k) df .run u rd) u m s.pan V:=by
   intro c1 s1 tm1 h hsz hst f1 ht hpe hp1
   obtain ⟨d,hq,hf⟩:=h opl (i+1) c1 tm1 df rd u m V rfl hrest' (fun o ho=>hsz ▸ hdst o ho) f1 hu (by rw [hpe];exact hm) (by rw [hpe];exact hp1) K (hK.tr (ht.up hK.2.2))
   exact ⟨d,hq,Fin.head hK.le hst (ht.up hK.2.2) ⟨rfl,rfl,rfl⟩ (by rw [hpe]) hf⟩
  cases hw:zAf opl.toList s.env o with
  | none=>rw [hw] at h;exact h.elim
  | some b =>
   have hw':=wanted_ok hw f.env
   rw [hw] at h
   cases b with
   | false =>
    refine go (ksAlt h) (zBf tm o.dst Go.undef) (.one (step_skipop i _ ho hw')) ?_ (TrA.refl _ _) rfl hp
    exact f.put (Ext.refl c) f.sim f.hb f.hH (undef_rel c) hd
   | true =>
    simp only at h
    cases he:evOp C P F s.H s.env o with
    | none=>rw [he] at h;exact h.elim
    | some q =>
     rw [he] at h
     rw [← f.hH] at he
     cases q with
     | val v H' =>
      obtain ⟨nx,V',w',ρ',h1,h2,h3,h4,h5,h6⟩:=evOp_val (a:=Act.mk tm df) ok f.sim f.hb f.lo f.env he
      refine go (c1:=⟨w',ρ',H'⟩) (ksAlt h) (zBf tm o.dst V') (.one (step_value i _ ho hw' (.inr (zB5 he (by simp))) h1 h2)) ?_ h5.all rfl (hp.ext h5.ext)
      exact f.put h5.ext h4 h6 rfl h3 hd
     | call g x y =>
      obtain ⟨D,hD,hrun⟩:=evOp_call (df:=df) ok f.sim.glob f.env he
      have after:∀ {d:Done} {nx:Next} {fr0:Frame},(invoke D.target D.args).run P c.w=.ok nx c.w→Entry P nx .normal fr0 →
        Fin P B c.H.length F.base c d fr0 (.plain (frm F tm (.inRegion opl (i::List.range' (i+1) (opl.size-(i+1)))::k) df .run u rd::u.cs m)) .returning none Go.undef →
        KSound C P B (kRet F opl.toList rest k s.env o.dst s.dfr s.pan d) Q→∃ d,Q d∧Fin P B K F.base c d (frm F tm (.inRegion opl (i::List.range' (i+1) (opl.size-(i+1)))::k) df .run u rd) u m s.pan V:=by
       intro d nx fr0 h1 h2 h3 hk
       have hst:=step_enter (P:=P) (u:=u) (F:=F) (df:=df) (rd:=rd) (k:=k) (cs:=u.cs m) i (List.range' (i+1) (opl.size-(i+1))) ho hw' (.inr (zB5 he (by simp))) (hrun c.w _ h1 rfl) h2
       obtain ⟨c',fr',m',wl,e',g1,g2,⟨g3,_,_⟩,g4,g5,g6,g7,g8,_,_⟩:=h3
       have hkn:fr'.kind=.normal:=by
        rw [g3]
        rcases h2 with ⟨_,_,_,rfl⟩ | ⟨_,_,_,_,_,_,rfl⟩<;>rfl
       have hx:=(g7.full (Nat.le_refl _)).ext
       obtain ⟨out,Hd,pd⟩:=d
       cases out with
       | pan v=>exact hk.elim
       | ret v =>
        cases e' with
        | pan _=>exact g4.elim
        | ret W =>
         have hret:=g2.normal hkn (frm F tm (.inRegion opl (i::List.range' (i+1) (opl.size-(i+1)))::k) df .run u rd) (u.cs m)
         rw [zBh i _ ho] at hret
         refine go hk (zBf tm o.dst W) (.head hst (g1.trans (.one hret))) ?_ g7 rfl (hp.ext hx)
         exact f.put hx g6 g8 g5 g4 hd
      simp only [kOp] at h
      cases hfn:kFn C g with
      | some g0 =>
       rw [hfn] at h
       cases kFn_some hfn
       obtain ⟨R,hcall,hret⟩:=h
       obtain ⟨nx,fr0,h1,h2,d,hR,h3⟩:=kEnter (base:=F.base) (u:=.plain (frm F tm (.inRegion opl (i::List.range' (i+1) (opl.size-(i+1)))::k) df .run u rd::u.cs m)) (m:=.returning) (V:=Go.undef) hcall f.hH f.sim f.hb f.lo hD rfl rfl
       exact after h1 h2 h3 (hret d hR)
      | none =>
       rw [hfn] at h
       simp only [kX] at h
       cases hc:zAx C P n F.base false g x y s.H none with
       | none=>rw [hc] at h;exact h.elim
       | some d =>
        rw [hc] at h
        obtain ⟨nx,fr0,h1,h2,h3⟩:=ihC _ _ _ _ _ _ _ _ hc c D (.plain (frm F tm (.inRegion opl (i::List.range' (i+1) (opl.size-(i+1)))::k) df .run u rd::u.cs m)) .returning Go.undef f.hH f.sim f.hb f.lo hD rfl rfl (fun _ _ e=>by cases e) (fun _=>rfl)
        exact after h1 h2 h3 (ksAlt h)
     | pan v=>exact h.elim
     | dfr d=>exact h.elim
     | recov=>exact h.elim
theorem kEndStep {n:Nat} {Q:Done→Prop} {L:Nat} {s1:St} {d1:Done} (h:KSoundR C P B (zAn C P (kX C P n) (.endL F k L s1 d1)) Q):KSound C P B (.endL F k L s1 d1) Q:=by
 intro c c1 tm df1 rd u m V fr0 frS b hfr hst K hK ht f hu hm hp hL hLo hkn hf
 obtain ⟨c',fr',m',wl,e',k1,k2,⟨k3,_,_⟩,k4,k5,k6,k7,k8,k9,k10⟩:=hf
 have hx:=(k7.full (Nat.le_refl _)).ext
 have hK1:=hK.tr ht
 have ht':=ht.trans hK.le (k7.wk hK1.2.2)
 have hk:fr'.kind=.normal:=k3.trans hkn
 have hff:∀ (x:Frame),(x.kind=u.kind∧x.fn=F.fn∧x.roundOf=rd)→x.kind=frS.kind∧x.fn=frS.fn∧x.roundOf=frS.roundOf:=fun x hx=>⟨hx.1.trans hfr.1.symm,hx.2.1.trans hfr.2.1.symm,hx.2.2.trans hfr.2.2.symm⟩
 have f':FOk P B c' F { s1 with H:=d1.H } tm df1 rd k:=f.heap hx k6 k8 k5
 simp only [zAn] at h
 cases e' with
 | pan W =>
  split at h
  ·exact h.elim
  ·rename_i v hv
   rw [hv] at k4
   exact k4.elim
 | ret R =>
  split at h
  ·rename_i v hv
   rw [hv] at k4
   exact k4.elim
  ·rename_i v hv
   split at h
   ·rename_i r hr
    split at h
    ·exact h.elim
    ·rename_i hnb
     have hstep:=k2.normal hk (frm F tm (.inRangeFunc b::k) df1 .run u rd) (u.cs m)
     rw [finish_range] at hstep
     obtain ⟨r0,hr0⟩:=hLo
     have hL':c'.ρ L=some b:=hx.same _ _ _ hr0 hL (by simp)
     have hr':c'.H[L]? = some (.loop r):=by rw [k5];exact hr
     obtain ⟨o,ho,hro⟩:=k6.obj L b hL'
     rw [hr'] at ho
     cases ho
     obtain ⟨tmps,dd,g1,g2,⟨fn,g3,g4,g5,g6,g7,g8⟩,g9,x,g10,g11⟩:=hro
     obtain ⟨q1,q2,q3,q4⟩:=set_obj (y:=.loop ⟨.exhausted,r.pending,r.fn,tmps,r.params,r.assign,r.body,dd⟩) (a:=.loop { r with state:=.exhausted })
      k6 k8 hL' hr' g1 (by simp) (by simp [Kind]) (fun c2 hx2 hy=>by
       obtain ⟨x',k12,k13⟩:=hx2.kind _ _ g10
       exact ⟨tmps,dd,hy,g2.ext hx2,⟨fn,g3,g4,g5,g6,g7,g8⟩,hx2.same _ _ x g10 g9 (by rintro _ _ rfl;exact g11),x',k12,g11.trans k13⟩) (fun N hN=>hN)
     have hend:=endLoop_run g1 hnb q1
     have f2:=f'.heap q3.ext q2 q4 (H':=d1.H.set L (.loop { r with state:=.exhausted })) (by simp only [Cx.wr,k5])
     have f3:=f2.todo (k':=(r.pending.map Item.code).toList++k) (fun fn' _ hall it hi=>by
      rcases List.mem_append.1 hi with hi | hi
      ·cases hpd:r.pending with
       | none=>rw [hpd] at hi;simp at hi
       | some j =>
        rw [hpd] at hi
        simp at hi
        subst hi
        have:=g8 j hpd
        cases j<;>simp only [jumpOk] at this<;>first | (cases this;done) | rfl
      ·exact hall it hi)
     obtain ⟨d,hq,hfin⟩:=ksAlt h _ tm df1 rd u m V f3 hu hm ((hp.ext hx).ext q3.ext) K (hK.tr (ht'.trans hK.le q3.below))
     exact ⟨d,hq,Fin.head hK.le (hst.trans (k1.trans (.head hstep (.one (st_endRange hend))))) (ht'.trans hK.le q3.below) (hff _ ⟨rfl,rfl,rfl⟩) rfl hfin⟩
   ·exact h.elim
theorem kCallStep (ok:Ok C P) {n:Nat} {Q:Done→Prop} {g:FuncId} {x:List AV} {H:Heap} (h:KSoundR C P B (zAn C P (kX C P n) (.call g x H)) Q):KSound C P B (.call g x H) Q:=by
 simp only [zAn] at h
 split at h
 ·exact h.elim
 rename_i fn hfn
 split at h
 ·exact h.elim
 rename_i b hbody
 split at h
 ·exact h.elim
 split at h
 rotate_left
 ·exact h.elim
 rename_i hl
 obtain ⟨h1,h2,h3⟩:=ok.fns _ _ hfn
 obtain ⟨R,hrun,hret⟩:=h
 refine ⟨⟨fn,h1,h2,by rw [hbody];rfl⟩,?_⟩
 intro base c vs u m V hH hs hb hB hr hu hm
 subst hH
 have hlen:=hr.length
 have hfr:Frame.enter P g vs.toArray u.kind={ fn:=g,tmps:=vs.toArray++Array.replicate (fn.ntmps-vs.length) Go.undef,todo:=[.code b],defers:=[],mode:=.run,kind:=u.kind,roundOf:=none }:=by
  simp [Frame.enter,h1,hbody]
 rw [hfr]
 have f:FOk P B c ⟨g,none,false,c.H.length⟩ ⟨Env.ofArgs 0 x,[],c.H,none⟩ (vs.toArray++Array.replicate (fn.ntmps-vs.length) Go.undef) [] none [.code b]:={
  hH:=rfl
  sim:=hs
  hb:=⟨Nat.le_refl _,fun l o _ ho=>hb.all l o ho,hb.all⟩
  lo:=hB
  env:=args_env hr _
  fn:=⟨fn,h1,by simp;omega,by simpa [zBn] using h3 b hbody⟩
  dfr:=by simp [RelD]
  rd:=trivial
  pan:=fun v r e=>by cases e
  elt:=ofArgs_lt _ _ (RelL.lt _ _ hr) }
 obtain ⟨d,hq,hf⟩:=hrun c _ [] none u m V f hu hm (fun _ _ e=>by cases e) c.H.length (KOk.base (Nat.le_refl _))
 exact ⟨_,hret d hq,fin_n _ _ hb hf⟩
theorem kExecStep (ok:Ok C P) {n:Nat} (ihD:DrawnOk C P B n) (ihV:LeaveOk C P B n) {Q:Done→Prop} {todo:List Item} (h:KSoundR C P B (zAn C P (kX C P n) (.exec F todo s)) Q):KSound C P B (.exec F todo s) Q:=by
 intro c tm df rd u m V f hu hm hp K hK
 have next:∀ {todo':List Item},KSound C P B (.exec F todo' s) Q→(∀ cs w,step P (lone (frm F tm todo df .run u rd) cs w)=.next (lone (frm F tm todo' df .run u rd) cs w)) →
   (∀ N,(∀ it∈todo,zBn N it)→∀ it∈todo',zBn N it)→∃ d,Q d∧Fin P B K F.base c d (frm F tm todo df .run u rd) u m s.pan V:=by
  intro todo' h' hs hi
  obtain ⟨d,hq,hf⟩:=h' c tm df rd u m V (f.todo fun fn _ h=>hi fn.ntmps h) hu hm hp K hK
  exact ⟨d,hq,Fin.head hK.le (.one (hs _ _)) (TrB.refl _ _ _) ⟨rfl,rfl,rfl⟩ rfl hf⟩
 have out:∀ {jump:Option Code},KSoundR C P B (kDone (leave C P n F jump s)) Q→(∀ j,jump=some j→jumpOk j=true) →
   ((jump=none∨jump=some .ret)→∀ cs w,step P (lone (frm F tm todo df .run u none) cs w)=.next (lone (frm F tm todo df .returning u none) cs w)) →
   (∀ b cs w v w',(Instr.endRound b jump).run P w=.ok v w'→(stepG P true { frame:=frm F tm todo df .run u (some b),callers:=cs,status:=.running,dying:=none } w).bare=(doReturn P true (frm F tm todo df .run u (some b)) cs none v w').bare) →
   ∃ d,Q d∧Fin P B K F.base c d (frm F tm todo df .run u rd) u m s.pan V:=by
  intro jump h' hj h1 h2
  cases hl:leave C P n F jump s with
  | none=>rw [hl] at h';exact h'.elim
  | some d =>
   rw [hl] at h'
   exact ⟨d,h',ihV F jump s d hl c tm df rd todo u m V (f.todo fun _ _ _=>by simp) hu hm hp hj K hK h1 h2⟩
 cases todo with
 | nil =>
  simp only [zAn,kX] at h
  exact out h (by simp) (fun _ cs w=>step_lone_go (by simp [stepG,stepG.exec,frm])) (fun b cs w v w' hr=>by simp [stepG,stepG.exec,frm,hr])
 | cons it k =>
  cases it with
  | inBlock id=>exact next (ksAlt h) (fun cs w=>st_inBlock) (fun N hall it hi=>hall it (by simp [hi]))
  | inLoop x =>
   refine next (ksAlt h) (fun cs w=>st_inLoop) (fun N hall it hi=>?_)
   have hx:=hall (.inLoop x) (by simp)
   rcases List.mem_cons.1 hi with rfl | hi
   ·exact hx
   ·rcases List.mem_cons.1 hi with rfl | hi
    ·exact hx
    ·exact hall it (by simp [hi])
  | inScope x=>exact next (ksAlt h) (fun cs w=>st_inScope) (fun N hall it hi=>hall it (by simp [hi]))
  | inRegion _ _=>exact h.elim
  | inRangeFunc _=>exact h.elim
  | endRangeFunc _=>exact h.elim
  | call _ _ _ _=>exact h.elim
  | extern _ _=>exact h.elim
  | beginRound=>exact h.elim
  | code x =>
   cases x with
   | skip=>exact next (ksAlt h) (fun cs w=>st_skip) (fun N hall it hi=>hall it (by simp [hi]))
   | label l=>exact next (ksAlt h) (fun cs w=>st_label) (fun N hall it hi=>hall it (by simp [hi]))
   | ret =>
    simp only [zAn,kX] at h
    exact out h (by rintro j ⟨⟩;rfl) (fun _ cs w=>step_lone_go (by simp [stepG,stepG.exec,frm])) (fun b cs w v w' hr=>by simp [stepG,stepG.exec,frm,hr])
   | seq x y =>
    refine next (ksAlt h) (fun cs w=>st_seq) (fun N hall it hi=>?_)
    have hx:=hall (.code (.seq x y)) (by simp)
    simp only [zBn,codeOk,Bool.and_eq_true] at hx
    rcases List.mem_cons.1 hi with rfl | hi
    ·exact hx.1
    ·rcases List.mem_cons.1 hi with rfl | hi
     ·exact hx.2
     ·exact hall it (by simp [hi])
   | block id x =>
    refine next (ksAlt h) (fun cs w=>st_block) (fun N hall it hi=>?_)
    have hx:=hall (.code (.block id x)) (by simp)
    rcases List.mem_cons.1 hi with rfl | hi
    ·exact hx
    ·rcases List.mem_cons.1 hi with rfl | hi
     ·trivial
     ·exact hall it (by simp [hi])
   | loop x =>
    refine next (ksAlt h) (fun cs w=>st_loop) (fun N hall it hi=>?_)
    have hx:=hall (.code (.loop x)) (by simp)
    rcases List.mem_cons.1 hi with rfl | hi
    ·exact hx
    ·rcases List.mem_cons.1 hi with rfl | hi
     ·exact hx
     ·exact hall it (by simp [hi])
   | scope x =>
    refine next (ksAlt h) (fun cs w=>st_scope) (fun N hall it hi=>?_)
    have hx:=hall (.code (.scope x)) (by simp)
    rcases List.mem_cons.1 hi with rfl | hi
    ·exact hx
    ·rcases List.mem_cons.1 hi with rfl | hi
     ·exact hx
     ·exact hall it (by simp [hi])
   | cond x y z =>
    simp only [zAn] at h
    have hx:=rel_opd (a:=Act.mk tm df) ok f.sim.glob f.env x
    split at h
    ·rename_i hv
     rw [hv] at hx
     simp only [Rel] at hx
     refine next (ksAlt h) (fun cs w=>by simpa using st_cond (k:=k) hx) (fun N hall it hi=>?_)
     have hx:=hall (.code (.cond x y z)) (by simp)
     simp only [zBn,codeOk,Bool.and_eq_true] at hx
     rcases List.mem_cons.1 hi with rfl | hi
     ·exact hx.1
     ·exact hall it (by simp [hi])
    ·rename_i hv
     rw [hv] at hx
     simp only [Rel] at hx
     refine next (ksAlt h) (fun cs w=>by simpa using st_cond (k:=k) hx) (fun N hall it hi=>?_)
     have hx:=hall (.code (.cond x y z)) (by simp)
     simp only [zBn,codeOk,Bool.and_eq_true] at hx
     rcases List.mem_cons.1 hi with rfl | hi
     ·exact hx.2
     ·exact hall it (by simp [hi])
    ·exact h.elim
   | exit id =>
    simp only [zAn] at h
    split at h
    ·rename_i k' hk
     exact next (ksAlt h) (fun cs w=>st_exit hk) (fun N hall it hi=>exit_items id k k' hk (fun it hi=>hall it (by simp [hi])) it hi)
    ·exact h.elim
   | goto l=>exact h.elim
   | refuse why=>exact h.elim
   | rangeFunc g params assign body=>exact kRange_ok ok h f hu hm hp hK
   | region id opl draw =>
    simp only [zAn] at h
    split at h
    ·exact h.elim
    ·rename_i s1 hg
     obtain ⟨c1,f1,hw,ht,hpan,hps⟩:=gc_ok hg f hK
     have hK1:=hK.tr ht
     have hp1:=hps V hp
     obtain ⟨fn,hfn,hsz,hit⟩:=f.fn
     have hdst:∀ o∈opl.toList,dstOk tm.size o:=by
      rw [hsz];exact region_dst (hit (.code (.region id opl draw)) (by simp))
     have fk:FOk P B c1 F s1 tm df rd k:=f1.todo (fun _ _ hall it hi=>hall it (by simp [hi]))
     have hm1:PanM V s1.pan m:=by rw [hpan];exact hm
     split at h
     ·rename_i hdraw
      subst hdraw
      simp only [kX] at h
      cases hr:drawn C P n F id opl s1 with
      | none=>rw [hr] at h;exact h.elim
      | some r =>
       rw [hr] at h
       cases r with
       | pan v s'=>exact h.elim
       | ok s' =>
        obtain ⟨d,hq,this⟩:=kOps (fr:=frm F tm (.code (.region id opl true)::k) df .run u rd) (ksAlt h) ⟨rfl,rfl,rfl⟩ hu (ihD F id opl s1 _ hr k c1 tm df rd u m V hdst fk hu hm1 hp1) hK1
        exact ⟨d,hq,Fin.head hK.le (by rw [hw];exact Steps.refl _ _) ht ⟨rfl,rfl,rfl⟩ (by rw [hpan]) this⟩
     ·rename_i hdraw
      have hdraw:draw=false:=by simpa using hdraw
      subst hdraw
      split at h
      ·split at h
       rotate_left
       ·exact h.elim
       rename_i l hnx
       obtain ⟨hsz,s',hs',c2,tm2,e1,e2,e3,e4,e5⟩:=next_ok ok hnx fk hdst u m
       have h:=h.2 _ (List.mem_map_of_mem hs')
       have hps2:Pans c2 V s'.pan:=by rw [e2];exact hp1.ext e5.ext
       obtain ⟨d,hq,this⟩:=h opl 1 c2 tm2 df rd u m V rfl (by simp) (fun o ho=>e1 ▸ hdst o ho) e4 hu (by rw [e2];exact hm1) hps2 K (hK1.tr (e5.below (tb:=K)))
       exact ⟨d,hq,Fin.head hK.le (fr1:=frm F tm2 (.inRegion opl (List.range' 1 (opl.size-1))::k) df .run u rd) (m1:=m) (p1:=s'.pan) (by rw [hw] at e3;exact .head st_region (.one e3)) (ht.trans hK.le e5.below) ⟨rfl,rfl,rfl⟩ (by rw [e2,hpan]) this⟩
      ·obtain ⟨d,hq,this⟩:=ksAlt h opl 0 c1 tm df rd u m V rfl rfl hdst fk hu hm1 hp1 K hK1
       exact ⟨d,hq,Fin.head hK.le (fr1:=frm F tm (.inRegion opl (List.range' 0 (opl.size-0))::k) df .run u rd) (m1:=m) (p1:=s1.pan) (by rw [hw];exact .one st_region) ht ⟨rfl,rfl,rfl⟩ (by rw [hpan]) this⟩
theorem kStep (ok:Ok C P) {n:Nat} (ihD:DrawnOk C P B n) (ihV:LeaveOk C P B n) (ihC:CallOk C P B n) {a:KSt} {Q:Done→Prop} (h:KSoundR C P B (zAn C P (kX C P n) a) Q):KSound C P B a Q:=by
 cases a with
 | exec F todo s=>exact kExecStep ok ihD ihV h
 | ops F all rest k s=>exact kOpsStep ok ihC h
 | endL F k L s d=>exact kEndStep h
 | call g x H=>exact kCallStep ok h
 | fin d=>exact h
 | stuck=>exact h
theorem kOk (ok:Ok C P) {n:Nat} (ihD:DrawnOk C P B n) (ihV:LeaveOk C P B n) (ihC:CallOk C P B n) {a:KSt} {Q:Done→Prop} (h:KRun C P (kX C P n) a Q):KSound C P B a Q:=by
 induction h with
 | done h hq=>exact kStep ok ihD ihV ihC (by rw [h];exact hq)
 | alts h hn hk ih=>exact kStep ok ihD ihV ihC (by rw [h];exact ⟨hn,ih⟩)
 | call h h1 h2 ih1 ih2=>exact kStep ok ihD ihV ihC (by rw [h];exact ⟨_,ih1,ih2⟩)
theorem rootOk (ok:Ok C P) {n:Nat} (ihD:DrawnOk C P B n) (ihV:LeaveOk C P B n) (ihC:CallOk C P B n):RootOk C P B n:=by
 intro g x H d h
 obtain ⟨h1,h2⟩:=kOk ok ihD ihV ihC h
 refine ⟨h1,fun base c vs u m V hH hs hb hB hr hu hm=>?_⟩
 obtain ⟨d',rfl,hf⟩:=h2 base c vs u m V hH hs hb hB hr hu hm
 exact hf
def All (C:Cfg) (P:Program) (B n:Nat):Prop:=ExecOk C P B n∧UnwOk C P B n∧OpsOk C P B n∧DrawnOk C P B n∧EndOk C P B n∧LeaveOk C P B n∧CallOk C P B n∧CallFOk C P B n∧CallBOk C P B n
theorem all_of (ok:Ok C P) (hD:∀ n,(∀ m,m<n→CallOk C P B m)→DrawnOk C P B n):∀ n,All C P B n:=by
 intro n
 induction n using Nat.strongRecOn with
 | _ n ih =>
  cases n with
  | zero =>
   refine ⟨?_,?_,?_,hD 0 (by simp),?_,?_,?_,?_,?_⟩
   ·intro F todo s d h;simp [exec] at h
   ·intro F mode s d h;simp [unw] at h
   ·intro F all rest s r h;simp [ops] at h
   ·intro F k L s1 d1 d h;simp [endLoop] at h
   ·intro F jump s d h;simp [leave] at h
   ·intro dfd f x k H pan d base h;simp [zAx] at h
   ·intro dfd g x H pan d h;simp [callF] at h
   ·intro g x H d base h;simp [callB] at h
  | succ n =>
   obtain ⟨h1,h2,h3,h4,h5,h6,h7,h8,h9⟩:=ih n (Nat.lt_succ_self n)
   refine ⟨exec_ok ok h1 (fun n' e=>(ih n' (by omega)).1) h2 h3 h4 h5 h6 h7,unw_ok ok h7 h2,?_,?_,range_ok h1 h2,leaveOk h2,?_,callF_ok ok h1,callB_ok ok h1⟩
   ·intro F all rest s r h opl i k c tm df rd u m V hall hrest hdst f hu hm hp
    exact ops_ok ok h7 h3 h opl i k c tm df rd u m V hall hrest hdst f hu hm hp
   ·exact hD (n+1) (fun m hm=>(ih m hm).2.2.2.2.2.2.1)
   ·intro dfd f x k H pan d base h c t u m V hH hs hb hB hr hu hm hp hpn
    exact callV_ok ok h8 h9 h1 (rootOk ok h4 h6 h7) dfd f x k H pan d base h c t u m V hH hs hb hB hr hu hm hp hpn
end
end Go.Ab
