/- A region that asks for an order: all its orders end alike. -/
import Derived.Test.YtjhnlfgleicnjaaGreatD6
namespace Go.Ab
set_option linter.unusedSimpArgs false
set_option linter.unusedVariables false
section
variable {C:Cfg} {P:Program} {B:Nat} {F:FI} {c:Cx}
variable {opl:Array Oper} {ps:List (Nat×Nat)} {A:Nat→Nat→Prop} {n:Nat} {E:Nat→Env} {Hs:Nat→Heap} {Lx:Nat→Nat} {V:Nat→AV} {tm:Array Value}
variable {df:List Deferred} {rd:Option Nat} {u:Up} {k:List Item} {cs:List Frame}
theorem count_lt (p q:Nat→Bool) (h:∀ i,q i=true→p i=true) (j:Nat) (hp:p j=true) (hq:q j=false):∀ l:List Nat,j∈l→l.countP q<l.countP p
 | [],hj=>by simp at hj
 | x::l,hj=>by
  have hle:l.countP q≤l.countP p:=List.countP_mono_left fun i _ hi=>h i hi
  simp only [List.countP_cons]
  rcases List.mem_cons.1 hj with rfl | hj
  ·rw [hp,hq];simp;omega
  ·have:=count_lt p q h j hp hq l hj
   have:(if q x=true then 1 else 0)≤(if p x=true then 1 else 0):=by
    cases hqx:q x with
    | true=>rw [h x hqx];exact Nat.le_refl _
    | false=>simp
   omega
def unl (opl:Array Oper) (listed:Array Bool):Nat:=(List.range opl.size).countP fun i=>!listed.getD i true
theorem binds_any {m:Region.Mode} {e:Edge} (h:Region.binds .any e=true):Region.binds m e=true:=by
 unfold Region.binds at h ⊢
 split at h
 ·cases h
 ·cases h
 ·rfl
variable {md:Region.Mode}
theorem ready_mem {listed:Array Bool} {j:Nat} (h:j∈Region.ready md opl listed):j<opl.size∧listed.getD j true=false∧∀ o,opl.toList[j]? = some o→∀ e∈o.after.toList,Region.binds .any e=true→listed.getD e.on false=true:=by
 simp only [Region.ready,List.mem_filter,List.mem_range,Bool.and_eq_true,Bool.not_eq_true'] at h
 obtain ⟨h1,h2,h3⟩:=h
 refine ⟨h1,h2,?_⟩
 intro o ho e he hb
 rw [Array.getElem?_toList] at ho
 rw [ho] at h3
 simp only [Option.map_some,Option.getD_some,Array.all_eq_true_iff_forall_mem,Bool.or_eq_true,Bool.not_eq_true'] at h3
 rcases h3 e (by simpa using he) with h | h
 ·rw [binds_any hb] at h;cases h
 ·exact h
theorem all_listed (p:Prog md opl) {listed:Array Bool} (hs:listed.size=opl.size) (h:Region.ready md opl listed=[]):∀ j,j<opl.size→listed.getD j true=true:=by
 obtain ⟨rank,p⟩:=p
 have key:∀ r j,rank j=r→j<opl.size→listed.getD j true=true:=by
  intro r
  induction r using Nat.strongRecOn with
  | _ r ih =>
   intro j hr hj
   refine Classical.byContradiction fun hn=>?_
   have hn:listed.getD j true=false:=by simpa using hn
   have:j∈Region.ready md opl listed:=by
    simp only [Region.ready,List.mem_filter,List.mem_range,Bool.and_eq_true,Bool.not_eq_true']
    refine ⟨hj,hn,?_⟩
    have ho:opl.toList[j]? = some opl.toList[j]:=List.getElem?_eq_getElem (by simpa using hj)
    have hoA:=ho
    rw [Array.getElem?_toList] at hoA
    rw [hoA]
    simp only [Option.map_some,Option.getD_some,Array.all_eq_true_iff_forall_mem,Bool.or_eq_true,Bool.not_eq_true']
    intro e he
    cases hb:Region.binds md e with
    | false=>exact .inl rfl
    | true =>
     right
     obtain ⟨hlt,hrk⟩:=p j _ ho e (by simpa using he) hb
     have:=ih (rank e.on) (by omega) e.on rfl hlt
     have hsz:e.on<listed.size:=by omega
     rw [Array.getD_eq_getD_getElem?,Array.getElem?_eq_getElem hsz] at this ⊢
     simpa using this
   rw [h] at this
   simp at this
 intro j hj
 exact key _ j rfl hj
theorem go_ok (ok:Ok C P) (pm:Prog md opl) (hC:∀ m,m<n→CallOk C P B m) (T:Text C P F opl ps A n E Hs Lx V fun _=>False) (hd:∀ o∈opl.toList,dstOk tm.size o):∀ (fuel t:Nat) (listed:Array Bool) (c:Cx) (tm':Array Value),listed.size=opl.size→unl opl listed≤fuel→tm'.size=tm.size →
  DInv C P B F opl E Hs Lx V (fun i=>i<opl.size∧listed.getD i true=true) c tm' →
  ∃ c' tm2,Steps P (lone (frm F tm' (.inRegion opl (Region.linearise.go md opl fuel t listed [])::k) df .run u rd) cs c.w) (lone (frm F tm2 (.inRegion opl []::k) df .run u rd) cs c'.w)∧tm2.size=tm.size ∧
   DInv C P B F opl E Hs Lx V (fun i=>i<opl.size) c' tm2∧TrB (Lx 0) F.base c c'∧Ext c c':=by
 intro fuel
 induction fuel with
 | zero =>
  intro t listed c tm' hsz hun htm I
  refine ⟨c,tm',by simp only [Region.linearise.go,List.reverse_nil];exact Steps.refl _ _,htm,?_,TrB.refl _ _ _,Ext.refl _⟩
  have:(fun i=>i<opl.size∧listed.getD i true=true)=(fun i=>i<opl.size):=by
   funext i
   refine propext ⟨fun h=>h.1,fun h=>⟨h,?_⟩⟩
   have hz:unl opl listed=0:=by omega
   simp only [unl,List.countP_eq_zero,List.mem_range] at hz
   have:=hz i h
   simpa using this
  rw [← this]
  exact I
 | succ fuel ih =>
  intro t listed c tm' hsz hun htm I
  have hunf:Region.linearise.go md opl (fuel+1) t listed []=match (Region.ready md opl listed)[t%(Region.ready md opl listed).length]? with
   | some i=>Region.linearise.go md opl fuel (t/(Region.ready md opl listed).length) (listed.setIfInBounds i true) [i]
   | none=>[]:=rfl
  rw [hunf]
  cases hi:(Region.ready md opl listed)[t%(Region.ready md opl listed).length]? with
  | none =>
   have hnil:Region.ready md opl listed=[]:=by
    cases hr:Region.ready md opl listed with
    | nil=>rfl
    | cons x xs =>
     rw [hr] at hi
     have hlt:t%(x::xs).length<(x::xs).length:=Nat.mod_lt _ (by simp)
     rw [List.getElem?_eq_getElem hlt] at hi
     cases hi
   have hall:=all_listed pm hsz hnil
   refine ⟨c,tm',Steps.refl _ _,htm,?_,TrB.refl _ _ _,Ext.refl _⟩
   have:(fun i=>i<opl.size∧listed.getD i true=true)=(fun i=>i<opl.size):=by
    funext i
    exact propext ⟨fun h=>h.1,fun h=>⟨h,hall i h⟩⟩
   rw [← this]
   exact I
  | some j =>
   obtain ⟨h1,h2,h3⟩:=ready_mem (List.mem_of_getElem? hi)
   have ho:opl.toList[j]? = some opl.toList[j]:=List.getElem?_eq_getElem (by simpa using h1)
   have hmem:opl.toList[j]∈opl.toList:=List.getElem_mem _
   simp only
   rw [linearise_go_acc,List.reverse_singleton,List.singleton_append]
   obtain ⟨c1,W,s1,I1,t1,x1⟩:=d_step (k:=k) (df:=df) (rd:=rd) (u:=u) (cs:=cs) ok hC T I ho (by rw [h2];simp) (fun h=>h) (fun e he hb=>by
     have hl:=h3 _ ho e he hb
     have hlt:e.on<listed.size:=by
      refine Nat.lt_of_not_le fun hle=>?_
      rw [Array.getD_eq_getD_getElem?,Array.getElem?_eq_none hle] at hl
      simp at hl
     refine ⟨by omega,?_⟩
     rw [Array.getD_eq_getD_getElem?,Array.getElem?_eq_getElem hlt] at hl ⊢
     simpa using hl) (by rw [htm];exact hd _ hmem) (Region.linearise.go md opl fuel (t/(Region.ready md opl listed).length) (listed.setIfInBounds j true) [])
   have hset:(fun i=>i=j∨(i<opl.size∧listed.getD i true=true))=(fun i=>i<opl.size∧(listed.setIfInBounds j true).getD i true=true):=by
    funext i
    refine propext ⟨?_,?_⟩
    ·rintro (rfl | ⟨h4,h5⟩)
     ·refine ⟨h1,?_⟩
      rw [Array.getD_eq_getD_getElem?,Array.getElem?_setIfInBounds_self_of_lt (by omega)];rfl
     ·refine ⟨h4,?_⟩
      by_cases hij:j=i
      ·subst hij
       rw [Array.getD_eq_getD_getElem?,Array.getElem?_setIfInBounds_self_of_lt (by omega)];rfl
      ·rw [Array.getD_eq_getD_getElem?,Array.getElem?_setIfInBounds_ne hij,← Array.getD_eq_getD_getElem?];exact h5
    ·rintro ⟨h4,h5⟩
     by_cases hij:j=i
     ·exact .inl hij.symm
     ·rw [Array.getD_eq_getD_getElem?,Array.getElem?_setIfInBounds_ne hij,← Array.getD_eq_getD_getElem?] at h5
      exact .inr ⟨h4,h5⟩
   rw [hset] at I1
   have hun':unl opl (listed.setIfInBounds j true)≤fuel:=by
    have:unl opl (listed.setIfInBounds j true)<unl opl listed:=by
     refine count_lt _ _ (fun i hi=>?_) j (by rw [h2];rfl) (by rw [Array.getD_eq_getD_getElem?,Array.getElem?_setIfInBounds_self_of_lt (by omega)];rfl) _ (by simpa using h1)
     by_cases hij:j=i
     ·subst hij;rw [h2];rfl
     ·rw [Array.getD_eq_getD_getElem?,Array.getElem?_setIfInBounds_ne hij,← Array.getD_eq_getD_getElem?] at hi
      exact hi
    omega
   obtain ⟨c2,tm2,s2,z2,I2,t2,x2⟩:=ih _ _ c1 _ (by simpa using hsz) hun' (by rw [zBf];exact htm) I1
   exact ⟨c2,tm2,s1.trans s2,z2,I2,t1.trans T.base t2,x1.trans x2⟩
theorem go_pan (ok:Ok C P) (pm:Prog md opl) (hC:∀ m,m<n→CallOk C P B m) {X:Nat→Prop} (T:Text C P F opl ps A n E Hs Lx V X) (hd:∀ o∈opl.toList,dstOk tm.size o) {ip:Nat} {oip:Oper} {f:Fn} {x kk:List AV} {m:Nat} {v:AV} {H':Heap} {p:Option (AV×Bool)}
  (hip:opl.toList[ip]? = some oip) (hw:zAf opl.toList (E ip) oip=some true) (h1:evOpD C P F (Hs ip) (E ip) oip (Lx ip)=some (.call f x kk)) (hm:m<n) (hc:zAx C P m F.base false f x kk (Hs ip) none=some ⟨.pan v,H',p⟩)
  (hX:∀ j,X j→j=ip∨A ip j):∀ (fuel t:Nat) (listed:Array Bool) (c:Cx) (tm':Array Value),listed.size=opl.size→unl opl listed≤fuel→tm'.size=tm.size→listed.getD ip true=false →
  DInv C P B F opl E Hs Lx V (fun i=>i<opl.size∧listed.getD i true=true) c tm' →
  ∃ c' tm2 todo W,Steps P (lone (frm F tm' (.inRegion opl (Region.linearise.go md opl fuel t listed [])::k) df .run u rd) cs c.w) (lone (frm F tm2 todo df (.panicking [{ v:=W,recovered:=false }]) u rd) cs c'.w)∧tm2.size=tm.size ∧
   Rel c' v W∧c'.H=H'∧Sim P B c'∧HB F.base c'.H∧TrB (Lx 0) F.base c c'∧Ext c c'∧B≤c'.w.heap.size ∧
   ∀ t,(∀ (j:Nat) (o:Oper),opl.toList[j]? = some o→o.dst=some t→j≠ip∧X j)→Rel c' ((E 0).get t) (tm2.getD t Go.undef):=by
 have hips:ip<opl.size:=by simpa using (List.getElem?_eq_some_iff.1 hip).1
 intro fuel
 induction fuel with
 | zero =>
  intro t listed c tm' hsz hun htm hnl I
  exfalso
  have hz:unl opl listed=0:=by omega
  simp only [unl,List.countP_eq_zero,List.mem_range] at hz
  have:=hz ip hips
  rw [hnl] at this
  simp at this
 | succ fuel ih =>
  intro t listed c tm' hsz hun htm hnl I
  have hunf:Region.linearise.go md opl (fuel+1) t listed []=match (Region.ready md opl listed)[t%(Region.ready md opl listed).length]? with
   | some i=>Region.linearise.go md opl fuel (t/(Region.ready md opl listed).length) (listed.setIfInBounds i true) [i]
   | none=>[]:=rfl
  rw [hunf]
  cases hi:(Region.ready md opl listed)[t%(Region.ready md opl listed).length]? with
  | none =>
   exfalso
   have hnil:Region.ready md opl listed=[]:=by
    cases hr:Region.ready md opl listed with
    | nil=>rfl
    | cons x xs =>
     rw [hr] at hi
     have hlt:t%(x::xs).length<(x::xs).length:=Nat.mod_lt _ (by simp)
     rw [List.getElem?_eq_getElem hlt] at hi
     cases hi
   have:=all_listed pm hsz hnil ip hips
   rw [hnl] at this
   cases this
  | some j =>
   obtain ⟨h1',h2,h3⟩:=ready_mem (List.mem_of_getElem? hi)
   have ho:opl.toList[j]? = some opl.toList[j]:=List.getElem?_eq_getElem (by simpa using h1')
   have hmem:opl.toList[j]∈opl.toList:=List.getElem_mem _
   have hready:∀ e∈(opl.toList[j]).after.toList,Region.binds .any e=true→e.on<opl.size∧listed.getD e.on true=true:=by
    intro e he hb
    have hl:=h3 _ ho e he hb
    have hlt:e.on<listed.size:=by
     refine Nat.lt_of_not_le fun hle=>?_
     rw [Array.getD_eq_getD_getElem?,Array.getElem?_eq_none hle] at hl
     simp at hl
    refine ⟨by omega,?_⟩
    rw [Array.getD_eq_getD_getElem?,Array.getElem?_eq_getElem hlt] at hl ⊢
    simpa using hl
   simp only
   rw [linearise_go_acc,List.reverse_singleton,List.singleton_append]
   by_cases hj:j=ip
   ·subst hj
    rw [ho] at hip
    cases hip
    obtain ⟨c',W,todo,s1,g1,g2,g3,g4,g5,g6⟩:=p_step (k:=k) (df:=df) (rd:=rd) (u:=u) (cs:=cs) ok hC T I ho (by rw [h2];simp) hready (Region.linearise.go md opl fuel (t/(Region.ready md opl listed).length) (listed.setIfInBounds j true) []) hw h1 hm hc
    refine ⟨c',tm',todo,W,s1,htm,g1,g2,g3,g4,g5,g6,Nat.le_trans I.lo g6.size,?_⟩
    intro t' ht
    obtain ⟨q,hq,q1,q2⟩:=I.env t'
    have hE:(E q).get t'=(E 0).get t':=by
     refine (seg' (fun i=>(E i).get t') opl.size 0 q (Nat.zero_le _) hq fun i hi' hne=>?_).symm
     have ha:opl.toList[i]? = some opl.toList[i]:=List.getElem?_eq_getElem (by simpa using hi')
     obtain ⟨h3',_⟩:=T.next i _ ha
     have hdt:(opl.toList[i]).dst=some t':=by
      refine Classical.byContradiction fun hn=>hne ?_
      simp only [h3']
      cases hdd:(opl.toList[i]).dst with
      | none=>rfl
      | some d =>
       simp only [Env.put,Env.get]
       rw [if_neg]
       rintro rfl
       exact hn hdd
     obtain ⟨hne',hXi⟩:=ht i _ ha hdt
     refine ⟨fun h=>by omega,fun hiq=>?_⟩
     exfalso
     have hDi:=(q1 i _ ha hdt).1 hiq
     have hA:=(hX i hXi).resolve_left hne'
     have:=closed_ahead T.plan I.closed i hi' (fun o' ho'=>I.closed i o' ho' hDi) j hA
     rw [h2] at this
     simp at this
    rw [← hE]
    exact Rel.ext g6 _ _ q2
   ·have hnX:¬ X j:=by
     intro hXj
     have hA:=(hX j hXj).resolve_left hj
     have:=closed_ahead T.plan I.closed j h1' (fun o' ho'=>by rw [ho] at ho';cases ho';exact hready) ip hA
     rw [hnl] at this
     simp at this
    obtain ⟨c1,W,s1,I1,t1,x1⟩:=d_step (k:=k) (df:=df) (rd:=rd) (u:=u) (cs:=cs) ok hC T I ho (by rw [h2];simp) hnX hready (by rw [htm];exact hd _ hmem) (Region.linearise.go md opl fuel (t/(Region.ready md opl listed).length) (listed.setIfInBounds j true) [])
    have hset:(fun i=>i=j∨(i<opl.size∧listed.getD i true=true))=(fun i=>i<opl.size∧(listed.setIfInBounds j true).getD i true=true):=by
     funext i
     refine propext ⟨?_,?_⟩
     ·rintro (rfl | ⟨h4,h5⟩)
      ·refine ⟨h1',?_⟩
       rw [Array.getD_eq_getD_getElem?,Array.getElem?_setIfInBounds_self_of_lt (by omega)];rfl
      ·refine ⟨h4,?_⟩
       by_cases hij:j=i
       ·subst hij
        rw [Array.getD_eq_getD_getElem?,Array.getElem?_setIfInBounds_self_of_lt (by omega)];rfl
       ·rw [Array.getD_eq_getD_getElem?,Array.getElem?_setIfInBounds_ne hij,← Array.getD_eq_getD_getElem?];exact h5
     ·rintro ⟨h4,h5⟩
      by_cases hij:j=i
      ·exact .inl hij.symm
      ·rw [Array.getD_eq_getD_getElem?,Array.getElem?_setIfInBounds_ne hij,← Array.getD_eq_getD_getElem?] at h5
       exact .inr ⟨h4,h5⟩
    rw [hset] at I1
    have hun':unl opl (listed.setIfInBounds j true)≤fuel:=by
     have:unl opl (listed.setIfInBounds j true)<unl opl listed:=by
      refine count_lt _ _ (fun i hi=>?_) j (by rw [h2];rfl) (by rw [Array.getD_eq_getD_getElem?,Array.getElem?_setIfInBounds_self_of_lt (by omega)];rfl) _ (by simpa using h1')
      by_cases hij:j=i
      ·subst hij;rw [h2];rfl
      ·rw [Array.getD_eq_getD_getElem?,Array.getElem?_setIfInBounds_ne hij,← Array.getD_eq_getD_getElem?] at hi
       exact hi
     omega
    obtain ⟨c2,tm2,todo,W2,s2,z2,g1,g2,g3,g4,t2,x2,g5,g6⟩:=ih _ _ c1 _ (by simpa using hsz) hun' (by rw [zBf];exact htm) (by rw [Array.getD_eq_getD_getElem?,Array.getElem?_setIfInBounds_ne hj,← Array.getD_eq_getD_getElem?];exact hnl) I1
    exact ⟨c2,tm2,todo,W2,s1.trans s2,z2,g1,g2,g3,g4,t1.trans T.base t2,x1.trans x2,g5,g6⟩
end
end Go.Ab
