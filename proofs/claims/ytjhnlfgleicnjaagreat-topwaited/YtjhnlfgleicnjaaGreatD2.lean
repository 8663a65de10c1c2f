/- A region that asks for an order: what the evaluator's run in the text's order leaves behind. -/
import Derived.Test.YtjhnlfgleicnjaaGreatD1
namespace Go.Ab
set_option linter.unusedSimpArgs false
set_option linter.unusedVariables false
section
variable {C:Cfg} {P:Program} {B:Nat} {F:FI}
inductive StepD (C:Cfg) (P:Program) (F:FI) (all:List Oper) (N:Nat) (o:Oper) (e:Env) (H:Heap) (l:Nat) (v:AV) (H':Heap):Prop
 | skip (h:zAf all e o=some false) (hv:v=.tup []) (hH:H'=H)
 | val (h:zAf all e o=some true) (H1:Heap) (h1:evOpD C P F H e o l=some (.val v H1)) (hH:H'=if zAl o.op then H1 else H)
 | call (h:zAf all e o=some true) (f:Fn) (x k:List AV) (m:Nat) (p:Option (AV×Bool)) (h1:evOpD C P F H e o l=some (.call f x k)) (hm:m<N) (hc:zAx C P m F.base false f x k H none=some ⟨.ret v,H',p⟩)
theorem getAt_add {α:Type} (l:List (Nat×α)) (i k:Nat) (x:α):zA5 ((i,x)::l) k=if i=k then some x else zA5 l k:=rfl
theorem getAt_addLd (i k:Nat) (r:Option RD) (l:Lds) (h:i≠k):zA5 (addLd i r l) k=zA5 l k:=by
 cases r with
 | none=>rfl
 | some x=>simp [addLd,zA5,h]
theorem dops_trace {all:List Oper} {ps:List (Nat×Nat)}:∀ (n:Nat) (rest:List Oper) (i l:Nat) (s:St) (lds:Lds) (efs:Efs) (r:RR),dops C P n F all ps i rest l s lds efs=some r→(∃ s',r=.ok s')→rest=all.drop i→i≤all.length →
  ∃ (E:Nat→Env) (Hs:Nat→Heap) (Lx:Nat→Nat) (V:Nat→AV) (lds':Lds) (efs':Efs),
   (E i=s.env∧Hs i=s.H∧Lx i=l) ∧
   (∀ j o,i≤j→all[j]? = some o→StepD C P F all n o (E j) (Hs j) (Lx j) (V j) (Hs (j+1))∧E (j+1)=(E j).put o.dst (V j)∧Lx (j+1)=nextL o (Lx j)) ∧
   r=.ok { s with env:=E all.length,H:=Hs all.length }∧ps.all (pairOk lds' efs')=true ∧
   (∀ k,k<i→zA5 lds' k=zA5 lds k∧zA5 efs' k=zA5 efs k) ∧
   (∀ k o,i≤k→all[k]? = some o→zAf all (E k) o=some true→(zAl o.op=true→zA5 efs' k=some (Hs k,Hs (k+1)))∧(zAl o.op=false→(∃ v H1,evOpD C P F (Hs k) (E k) o (Lx k)=some (.val v H1))→∀ q,zAp C (E k) o.op=some q→zA5 lds' k=some q))
 | 0,_,_,_,_,_,_,_,h,_,_,_=>by simp [dops] at h
 | n+1,[],i,l,s,lds,efs,r,h,hok,hr,hle=>by
  have hlen:i=all.length:=by
   have:=congrArg List.length hr
   simp at this;omega
  subst hlen
  simp only [dops] at h
  split at h
  ·rename_i hp
   cases h
   refine ⟨fun _=>s.env,fun _=>s.H,fun _=>l,fun _=>.undef,lds,efs,⟨rfl,rfl,rfl⟩,?_,rfl,hp,fun _ _=>⟨rfl,rfl⟩,?_⟩
   ·intro j o hj ho
    rw [List.getElem?_eq_none hj] at ho;cases ho
   ·intro j o hj ho
    rw [List.getElem?_eq_none hj] at ho;cases ho
  ·cases h
 | n+1,o::rest,i,l,s,lds,efs,r,h,hok,hr,hle=>by
  have hlt:i<all.length:=by
   refine Nat.lt_of_not_le fun hle'=>?_
   rw [List.drop_eq_nil_of_le hle'] at hr;cases hr
  have ho:all[i]? = some o:=by
   have:=congrArg (·[0]?) hr
   simpa using this.symm
  have hrest:rest=all.drop (i+1):=by
   have:=congrArg List.tail hr
   simpa using this
  have mono:∀ {o e H l v H'},StepD C P F all n o e H l v H'→StepD C P F all (n+1) o e H l v H':=by
   intro o e H l v H' hs
   cases hs with
   | skip h hv hH=>exact .skip h hv hH
   | val h H1 h1 hH=>exact .val h H1 h1 hH
   | call h f x k m p h1 hm hc=>exact .call h f x k m p h1 (by omega) hc
  have go:∀ {s1:St} {lds1:Lds} {efs1:Efs} {v:AV} {H':Heap},dops C P n F all ps (i+1) rest (nextL o l) s1 lds1 efs1=some r→StepD C P F all (n+1) o s.env s.H l v H'→s1={ s with env:=s.env.put o.dst v,H:=H' } →
    (∀ k,k≠i→zA5 lds1 k=zA5 lds k∧zA5 efs1 k=zA5 efs k) →
    (zAf all s.env o=some true→(zAl o.op=true→zA5 efs1 i=some (s.H,H'))∧(zAl o.op=false→(∃ v H1,evOpD C P F s.H s.env o l=some (.val v H1))→∀ q,zAp C s.env o.op=some q→zA5 lds1 i=some q)) →
    ∃ (E:Nat→Env) (Hs:Nat→Heap) (Lx:Nat→Nat) (V:Nat→AV) (lds':Lds) (efs':Efs),
     (E i=s.env∧Hs i=s.H∧Lx i=l) ∧
     (∀ j o,i≤j→all[j]? = some o→StepD C P F all (n+1) o (E j) (Hs j) (Lx j) (V j) (Hs (j+1))∧E (j+1)=(E j).put o.dst (V j)∧Lx (j+1)=nextL o (Lx j)) ∧
     r=.ok { s with env:=E all.length,H:=Hs all.length }∧ps.all (pairOk lds' efs')=true ∧
     (∀ k,k<i→zA5 lds' k=zA5 lds k∧zA5 efs' k=zA5 efs k) ∧
     (∀ k o,i≤k→all[k]? = some o→zAf all (E k) o=some true→(zAl o.op=true→zA5 efs' k=some (Hs k,Hs (k+1)))∧(zAl o.op=false→(∃ v H1,evOpD C P F (Hs k) (E k) o (Lx k)=some (.val v H1))→∀ q,zAp C (E k) o.op=some q→zA5 lds' k=some q)):=by
   intro s1 lds1 efs1 v H' h hst hs1 hk hrec
   subst hs1
   obtain ⟨E,Hs,Lx,V,lds',efs',⟨g1,g2,g3⟩,g4,g5,g6,g7,g8⟩:=dops_trace n rest (i+1) _ _ _ _ _ h hok hrest (by omega)
   have ne:∀ {j:Nat},i+1≤j→j≠i:=by intro j hj;omega
   refine ⟨fun j=>if j=i then s.env else E j,fun j=>if j=i then s.H else Hs j,fun j=>if j=i then l else Lx j,fun j=>if j=i then v else V j,lds',efs',⟨by simp,by simp,by simp⟩,?_,?_,g6,?_,?_⟩
   ·intro j o' hj ho'
    by_cases hji:j=i
    ·subst hji
     rw [ho] at ho'
     cases ho'
     simp only [if_pos,if_neg (Nat.succ_ne_self j),g1,g2,g3]
     exact ⟨hst,trivial,trivial⟩
    ·have hj':i+1≤j:=by omega
     obtain ⟨q1,q2,q3⟩:=g4 j o' hj' ho'
     simp only [if_neg hji,if_neg (show ¬ j+1=i by omega)]
     exact ⟨mono q1,q2,q3⟩
   ·simp only [if_neg (show ¬ all.length=i by omega)]
    exact g5
   ·intro k hki
    obtain ⟨q1,q2⟩:=g7 k (by omega)
    obtain ⟨q3,q4⟩:=hk k (by omega)
    exact ⟨q1.trans q3,q2.trans q4⟩
   ·intro k o' hik ho' hw
    by_cases hki:k=i
    ·subst hki
     rw [ho] at ho'
     cases ho'
     simp only [if_pos] at hw
     obtain ⟨q1,q2⟩:=hrec hw
     obtain ⟨q3,q4⟩:=g7 k (by omega)
     simp only [if_pos,if_neg (Nat.succ_ne_self k),g2]
     exact ⟨fun he=>q4.trans (q1 he),fun he hv q hq=>q3.trans (q2 he hv q hq)⟩
    ·simp only [if_neg hki] at hw
     simp only [if_neg hki,if_neg (show ¬ k+1=i by omega)]
     exact g8 k o' (by omega) ho' hw
  simp only [dops] at h
  cases hw:zAf all s.env o with
  | none=>rw [hw] at h;cases h
  | some b =>
   rw [hw] at h
   cases b with
   | false =>
    simp only at h
    exact go h (.skip hw rfl rfl) rfl (fun _ _=>⟨rfl,rfl⟩) (fun h'=>by rw [hw] at h';cases h')
   | true =>
    simp only at h
    cases he:evOpD C P F s.H s.env o l with
    | none=>rw [he] at h;cases h
    | some q =>
     rw [he] at h
     cases q with
     | val v H1 =>
      simp only at h
      split at h
      ·rename_i hef
       exact go h (.val hw H1 he (by rw [if_pos hef])) rfl (fun k hk=>⟨rfl,by rw [getAt_add,if_neg (fun e=>hk e.symm)]⟩) (fun _=>⟨fun _=>by rw [getAt_add,if_pos rfl],fun h'=>by rw [hef] at h';cases h'⟩)
      ·rename_i hef
       have hef:zAl o.op=false:=by simpa using hef
       refine go (H':=s.H) h (.val hw H1 he (by rw [hef];rfl)) rfl (fun k hk=>⟨getAt_addLd _ _ _ _ (fun e=>hk e.symm),rfl⟩) (fun _=>⟨fun h'=>(by rw [hef] at h';cases h'),fun _ _ q hq=>?_⟩)
       rw [hq]
       simp [addLd,zA5]
     | call f x k =>
      simp only at h
      split at h
      ·rename_i v H' p hc
       refine go h (.call hw f x k n p he (by omega) hc) rfl (fun k hk=>⟨rfl,by rw [getAt_add,if_neg (fun e=>hk e.symm)]⟩) (fun _=>⟨fun _=>by rw [getAt_add,if_pos rfl],fun _ hv=>?_⟩)
       obtain ⟨v,H1,hv⟩:=hv
       rw [he] at hv
       cases hv
      ·obtain ⟨s',hok⟩:=hok
       split at h
       ·split at h
        ·cases h;cases hok
        ·cases h
       ·cases h
      ·cases h
     | pan v=>cases h
     | dfr d=>cases h
     | recov=>cases h
theorem dpan_trace {all:List Oper} {ps:List (Nat×Nat)} {ip N:Nat} {H:Heap}:∀ (rest:List Oper) (j l:Nat) (e:Env) (lds lds':Lds),dpan C P F all ps ip H j rest l e lds=some lds'→rest=all.drop j→j≤all.length →
  ∃ (E:Nat→Env) (Lx:Nat→Nat) (V:Nat→AV),E j=e∧Lx j=l ∧
   (∀ k o,j≤k→all[k]? = some o→(hasPr ps k (1000+ip)=true∨(zAl o.op=false∧StepD C P F all N o (E k) H (Lx k) (V k) H))∧E (k+1)=(E k).put o.dst (V k)∧Lx (k+1)=nextL o (Lx k)) ∧
   (∀ k,k<j→zA5 lds' k=zA5 lds k) ∧
   (∀ k o,j≤k→all[k]? = some o→hasPr ps k (1000+ip)=false→zAf all (E k) o=some true→(∃ v H1,evOpD C P F H (E k) o (Lx k)=some (.val v H1))→∀ q,zAp C (E k) o.op=some q→zA5 lds' k=some q)
 | [],j,l,e,lds,lds',h,hr,hle=>by
  have hlen:j=all.length:=by
   have:=congrArg List.length hr
   simp at this;omega
  subst hlen
  simp only [dpan] at h
  cases h
  refine ⟨fun _=>e,fun _=>l,fun _=>.undef,rfl,rfl,?_,fun _ _=>rfl,?_⟩
  ·intro k o hk ho
   rw [List.getElem?_eq_none hk] at ho;cases ho
  ·intro k o hk ho
   rw [List.getElem?_eq_none hk] at ho;cases ho
 | o::rest,j,l,e,lds,lds',h,hr,hle=>by
  have hlt:j<all.length:=by
   refine Nat.lt_of_not_le fun hle'=>?_
   rw [List.drop_eq_nil_of_le hle'] at hr;cases hr
  have ho:all[j]? = some o:=by
   have:=congrArg (·[0]?) hr
   simpa using this.symm
  have hrest:rest=all.drop (j+1):=by
   have:=congrArg List.tail hr
   simpa using this
  have go:∀ {lds1:Lds} {v:AV},dpan C P F all ps ip H (j+1) rest (nextL o l) (e.put o.dst v) lds1=some lds'→(hasPr ps j (1000+ip)=true∨(zAl o.op=false∧StepD C P F all N o e H l v H)) →
    (∀ k,k≠j→zA5 lds1 k=zA5 lds k) →
    (hasPr ps j (1000+ip)=false→zAf all e o=some true→(∃ v H1,evOpD C P F H e o l=some (.val v H1))→∀ q,zAp C e o.op=some q→zA5 lds1 j=some q) →
    ∃ (E:Nat→Env) (Lx:Nat→Nat) (V:Nat→AV),E j=e∧Lx j=l ∧
     (∀ k o,j≤k→all[k]? = some o→(hasPr ps k (1000+ip)=true∨(zAl o.op=false∧StepD C P F all N o (E k) H (Lx k) (V k) H))∧E (k+1)=(E k).put o.dst (V k)∧Lx (k+1)=nextL o (Lx k)) ∧
     (∀ k,k<j→zA5 lds' k=zA5 lds k) ∧
     (∀ k o,j≤k→all[k]? = some o→hasPr ps k (1000+ip)=false→zAf all (E k) o=some true→(∃ v H1,evOpD C P F H (E k) o (Lx k)=some (.val v H1))→∀ q,zAp C (E k) o.op=some q→zA5 lds' k=some q):=by
   intro lds1 v h hst hk hrec
   obtain ⟨E,Lx,V,g1,g2,g3,g4,g5⟩:=dpan_trace rest (j+1) _ _ _ _ h hrest (by omega)
   refine ⟨fun k=>if k=j then e else E k,fun k=>if k=j then l else Lx k,fun k=>if k=j then v else V k,by simp,by simp,?_,?_,?_⟩
   ·intro k o' hjk ho'
    by_cases hkj:k=j
    ·subst hkj
     rw [ho] at ho'
     cases ho'
     simp only [if_pos,if_neg (Nat.succ_ne_self k),g1,g2]
     exact ⟨hst,trivial,trivial⟩
    ·obtain ⟨q1,q2,q3⟩:=g3 k o' (by omega) ho'
     simp only [if_neg hkj,if_neg (show ¬ k+1=j by omega)]
     exact ⟨q1,q2,q3⟩
   ·intro k hkj
    exact (g4 k (by omega)).trans (hk k (by omega))
   ·intro k o' hjk ho' hd hw hv q hq
    by_cases hkj:k=j
    ·subst hkj
     rw [ho] at ho'
     cases ho'
     simp only [if_pos] at hw hv hq
     exact (g4 k (by omega)).trans (hrec hd hw hv q hq)
    ·simp only [if_neg hkj] at hw hv hq
     exact g5 k o' (by omega) ho' hd hw hv q hq
  simp only [dpan] at h
  split at h
  ·rename_i hd
   exact go h (.inl hd) (fun _ _=>rfl) (fun hd'=>by rw [hd] at hd';cases hd')
  ·rename_i hd
   split at h
   ·cases h
   ·rename_i hef
    have hef:zAl o.op=false:=by simpa using hef
    split at h
    ·cases h
    ·rename_i hw
     exact go h (.inr ⟨hef,.skip hw rfl rfl⟩) (fun _ _=>rfl) (fun _ hw'=>by rw [hw] at hw';cases hw')
    ·rename_i hw
     split at h
     ·rename_i v H1 hev
      refine go h (.inr ⟨hef,.val hw H1 hev (by rw [hef];rfl)⟩) (fun k hk=>getAt_addLd _ _ _ _ (fun e=>hk e.symm)) (fun _ _ _ q hq=>?_)
      rw [hq]
      simp [addLd,zA5]
     ·cases h
theorem dops_pan {all:List Oper} {ps:List (Nat×Nat)}:∀ (n:Nat) (rest:List Oper) (i l:Nat) (s:St) (lds:Lds) (efs:Efs) (v:AV) (s':St),dops C P n F all ps i rest l s lds efs=some (.pan v s')→rest=all.drop i→i≤all.length →
  ∃ (ip:Nat) (oip:Oper) (f:Fn) (x k:List AV) (m:Nat) (H':Heap) (p:Option (AV×Bool)) (E:Nat→Env) (Hs:Nat→Heap) (Lx:Nat→Nat) (V:Nat→AV) (lds':Lds) (efs':Efs),
   (E i=s.env∧Hs i=s.H∧Lx i=l)∧i≤ip∧all[ip]? = some oip∧zAf all (E ip) oip=some true∧evOpD C P F (Hs ip) (E ip) oip (Lx ip)=some (.call f x k)∧m<n∧zAx C P m F.base false f x k (Hs ip) none=some ⟨.pan v,H',p⟩ ∧
   s'={ s with env:=panEnv ps ip all (E ip),H:=H' }∧ps.all (pairOk lds' efs')=true ∧
   (∀ j o,i≤j→all[j]? = some o→¬ (j=ip∨(ip<j∧hasPr ps j (1000+ip)=true))→StepD C P F all n o (E j) (Hs j) (Lx j) (V j) (Hs (j+1))) ∧
   (∀ j o,i≤j→all[j]? = some o→E (j+1)=(E j).put o.dst (V j)∧Lx (j+1)=nextL o (Lx j)) ∧
   (∀ j,ip≤j→Hs j=Hs ip) ∧
   (∀ k,k<i→zA5 lds' k=zA5 lds k∧zA5 efs' k=zA5 efs k) ∧
   (∀ k o,i≤k→all[k]? = some o→¬ (k=ip∨(ip<k∧hasPr ps k (1000+ip)=true))→zAf all (E k) o=some true→(zAl o.op=true→zA5 efs' k=some (Hs k,Hs (k+1)))∧(zAl o.op=false→(∃ v H1,evOpD C P F (Hs k) (E k) o (Lx k)=some (.val v H1))→∀ q,zAp C (E k) o.op=some q→zA5 lds' k=some q))
 | 0,_,_,_,_,_,_,_,_,h,_,_=>by simp [dops] at h
 | n+1,[],i,l,s,lds,efs,v,s',h,hr,hle=>by
  simp only [dops] at h
  split at h
  ·cases h
  ·cases h
 | n+1,o::rest,i,l,s,lds,efs,vv,s',h,hr,hle=>by
  have hlt:i<all.length:=by
   refine Nat.lt_of_not_le fun hle'=>?_
   rw [List.drop_eq_nil_of_le hle'] at hr;cases hr
  have ho:all[i]? = some o:=by
   have:=congrArg (·[0]?) hr
   simpa using this.symm
  have hrest:rest=all.drop (i+1):=by
   have:=congrArg List.tail hr
   simpa using this
  have mono:∀ {o e H l v H'},StepD C P F all n o e H l v H'→StepD C P F all (n+1) o e H l v H':=by
   intro o e H l v H' hs
   cases hs with
   | skip h hv hH=>exact .skip h hv hH
   | val h H1 h1 hH=>exact .val h H1 h1 hH
   | call h f x k m p h1 hm hc=>exact .call h f x k m p h1 (by omega) hc
  have go:∀ {s1:St} {lds1:Lds} {efs1:Efs} {v:AV} {H':Heap},dops C P n F all ps (i+1) rest (nextL o l) s1 lds1 efs1=some (.pan vv s')→StepD C P F all (n+1) o s.env s.H l v H'→s1={ s with env:=s.env.put o.dst v,H:=H' } →
    (∀ k,k≠i→zA5 lds1 k=zA5 lds k∧zA5 efs1 k=zA5 efs k) →
    (zAf all s.env o=some true→(zAl o.op=true→zA5 efs1 i=some (s.H,H'))∧(zAl o.op=false→(∃ v H1,evOpD C P F s.H s.env o l=some (.val v H1))→∀ q,zAp C s.env o.op=some q→zA5 lds1 i=some q)) →
    ∃ (ip:Nat) (oip:Oper) (f:Fn) (x k:List AV) (m:Nat) (H':Heap) (p:Option (AV×Bool)) (E:Nat→Env) (Hs:Nat→Heap) (Lx:Nat→Nat) (V:Nat→AV) (lds':Lds) (efs':Efs),
     (E i=s.env∧Hs i=s.H∧Lx i=l)∧i≤ip∧all[ip]? = some oip∧zAf all (E ip) oip=some true∧evOpD C P F (Hs ip) (E ip) oip (Lx ip)=some (.call f x k)∧m<n+1∧zAx C P m F.base false f x k (Hs ip) none=some ⟨.pan vv,H',p⟩ ∧
     s'={ s with env:=panEnv ps ip all (E ip),H:=H' }∧ps.all (pairOk lds' efs')=true ∧
     (∀ j o,i≤j→all[j]? = some o→¬ (j=ip∨(ip<j∧hasPr ps j (1000+ip)=true))→StepD C P F all (n+1) o (E j) (Hs j) (Lx j) (V j) (Hs (j+1))) ∧
     (∀ j o,i≤j→all[j]? = some o→E (j+1)=(E j).put o.dst (V j)∧Lx (j+1)=nextL o (Lx j)) ∧
     (∀ j,ip≤j→Hs j=Hs ip) ∧
     (∀ k,k<i→zA5 lds' k=zA5 lds k∧zA5 efs' k=zA5 efs k) ∧
     (∀ k o,i≤k→all[k]? = some o→¬ (k=ip∨(ip<k∧hasPr ps k (1000+ip)=true))→zAf all (E k) o=some true→(zAl o.op=true→zA5 efs' k=some (Hs k,Hs (k+1)))∧(zAl o.op=false→(∃ v H1,evOpD C P F (Hs k) (E k) o (Lx k)=some (.val v H1))→∀ q,zAp C (E k) o.op=some q→zA5 lds' k=some q)):=by
   intro s1 lds1 efs1 v H' h hst hs1 hk hrec
   subst hs1
   obtain ⟨ip,oip,f,x,kk,m,H2,p,E,Hs,Lx,V,lds',efs',⟨g1,g2,g3⟩,g4,g5,g6,g7,g8,g9,g10,g11,g12,g13,g14,g15,g16⟩:=dops_pan n rest (i+1) _ _ _ _ _ _ h hrest (by omega)
   have ni:¬ ip=i:=by omega
   refine ⟨ip,oip,f,x,kk,m,H2,p,fun j=>if j=i then s.env else E j,fun j=>if j=i then s.H else Hs j,fun j=>if j=i then l else Lx j,fun j=>if j=i then v else V j,lds',efs',⟨by simp,by simp,by simp⟩,by omega,g5,?_,?_,by omega,?_,?_,g11,?_,?_,?_,?_,?_⟩
   ·simp only [if_neg ni];exact g6
   ·simp only [if_neg ni];exact g7
   ·simp only [if_neg ni];exact g9
   ·simp only [if_neg ni];exact g10
   ·intro j o' hj ho' hX
    by_cases hji:j=i
    ·subst hji
     rw [ho] at ho'
     cases ho'
     simp only [if_pos,if_neg (Nat.succ_ne_self j),g2]
     exact hst
    ·simp only [if_neg hji,if_neg (show ¬ j+1=i by omega)]
     exact mono (g12 j o' (by omega) ho' hX)
   ·intro j o' hj ho'
    by_cases hji:j=i
    ·subst hji
     rw [ho] at ho'
     cases ho'
     simp only [if_pos,if_neg (Nat.succ_ne_self j),g1,g3]
     exact ⟨trivial,trivial⟩
    ·simp only [if_neg hji,if_neg (show ¬ j+1=i by omega)]
     exact g13 j o' (by omega) ho'
   ·intro j hj
    simp only [if_neg ni,if_neg (show ¬ j=i by omega)]
    exact g14 j hj
   ·intro k hki
    obtain ⟨q1,q2⟩:=g15 k (by omega)
    obtain ⟨q3,q4⟩:=hk k (by omega)
    exact ⟨q1.trans q3,q2.trans q4⟩
   ·intro k o' hik ho' hX hw
    by_cases hki:k=i
    ·subst hki
     rw [ho] at ho'
     cases ho'
     simp only [if_pos] at hw
     obtain ⟨q1,q2⟩:=hrec hw
     obtain ⟨q3,q4⟩:=g15 k (by omega)
     simp only [if_pos,if_neg (Nat.succ_ne_self k),g2]
     exact ⟨fun he=>q4.trans (q1 he),fun he hv q hq=>q3.trans (q2 he hv q hq)⟩
    ·simp only [if_neg hki] at hw
     simp only [if_neg hki,if_neg (show ¬ k+1=i by omega)]
     exact g16 k o' (by omega) ho' hX hw
  simp only [dops] at h
  cases hw:zAf all s.env o with
  | none=>rw [hw] at h;cases h
  | some b =>
   rw [hw] at h
   cases b with
   | false =>
    simp only at h
    exact go h (.skip hw rfl rfl) rfl (fun _ _=>⟨rfl,rfl⟩) (fun h'=>by rw [hw] at h';cases h')
   | true =>
    simp only at h
    cases he:evOpD C P F s.H s.env o l with
    | none=>rw [he] at h;cases h
    | some q =>
     rw [he] at h
     cases q with
     | val v H1 =>
      simp only at h
      split at h
      ·rename_i hef
       exact go h (.val hw H1 he (by rw [if_pos hef])) rfl (fun k hk=>⟨rfl,by rw [getAt_add,if_neg (fun e=>hk e.symm)]⟩) (fun _=>⟨fun _=>by rw [getAt_add,if_pos rfl],fun h'=>by rw [hef] at h';cases h'⟩)
      ·rename_i hef
       have hef:zAl o.op=false:=by simpa using hef
       refine go (H':=s.H) h (.val hw H1 he (by rw [hef];rfl)) rfl (fun k hk=>⟨getAt_addLd _ _ _ _ (fun e=>hk e.symm),rfl⟩) (fun _=>⟨fun h'=>(by rw [hef] at h';cases h'),fun _ _ q hq=>?_⟩)
       rw [hq]
       simp [addLd,zA5]
     | call f x k =>
      simp only at h
      split at h
      ·rename_i v H' p hc
       refine go h (.call hw f x k n p he (by omega) hc) rfl (fun k hk=>⟨rfl,by rw [getAt_add,if_neg (fun e=>hk e.symm)]⟩) (fun _=>⟨fun _=>by rw [getAt_add,if_pos rfl],fun _ hv=>?_⟩)
       obtain ⟨v,H1,hv⟩:=hv
       rw [he] at hv
       cases hv
      ·rename_i v H' p hc
       split at h
       ·rename_i lds' hdp
        split at h
        ·rename_i hpr
         cases h
         obtain ⟨E,Lx,V,g1,g2,g3,g4,g5⟩:=dpan_trace (N:=n+1) rest (i+1) _ _ _ _ hdp hrest (by omega)
         refine ⟨i,o,f,x,k,n,H',p,fun j=>if j=i then s.env else E j,fun _=>s.H,fun j=>if j=i then l else Lx j,fun j=>if j=i then .undef else V j,lds',efs,⟨by simp,rfl,by simp⟩,Nat.le_refl _,ho,by simp only [if_pos];exact hw,by simp only [if_pos];exact he,by omega,hc,by simp only [if_pos],hpr,?_,?_,fun _ _=>rfl,?_,?_⟩
         ·intro j o' hj ho' hX
          have hji:¬ j=i:=fun e=>hX (.inl e)
          simp only [if_neg hji]
          rcases (g3 j o' (by omega) ho').1 with h | h
          ·exact absurd (.inr ⟨by omega,h⟩) hX
          ·exact h.2
         ·intro j o' hj ho'
          by_cases hji:j=i
          ·subst hji
           rw [ho] at ho'
           cases ho'
           simp only [if_pos,if_neg (Nat.succ_ne_self j),g1,g2]
           exact ⟨trivial,trivial⟩
          ·simp only [if_neg hji,if_neg (show ¬ j+1=i by omega)]
           exact (g3 j o' (by omega) ho').2
         ·intro k hk
          exact ⟨g4 k (by omega),rfl⟩
         ·intro k o' hk ho' hX hw'
          have hki:¬ k=i:=fun e=>hX (.inl e)
          have hd:hasPr ps k (1000+i)=false:=by
           cases h:hasPr ps k (1000+i) with
           | false=>rfl
           | true=>exact absurd (.inr ⟨by omega,h⟩) hX
          simp only [if_neg hki] at hw' ⊢
          have hne:zAl o'.op=false:=by
           rcases (g3 k o' (by omega) ho').1 with h | h
           ·rw [hd] at h;cases h
           ·exact h.1
          exact ⟨fun he=>(by rw [hne] at he;cases he),fun _ hv q hq=>g5 k o' (by omega) ho' hd hw' hv q hq⟩
        ·cases h
       ·cases h
      ·cases h
     | pan v=>cases h
     | dfr d=>cases h
     | recov=>cases h
end
end Go.Ab
