/- Stacks: what is found, by sets (plain). -/
import Derived.Test.YtjhnlfgleicnjaaGreatKK2
namespace Go.Ab
open Go.Proofs
set_option linter.unusedSimpArgs false
set_option linter.unusedVariables false
set_option maxRecDepth 100000
set_option maxHeartbeats 2000000
variable {H:Heap}
theorem lesB_iff {x y:Nat}:lesB x y=true↔pop x<pop y∨pop x=pop y∧x<y:=by
 simp only [lesB,Bool.or_eq_true,Bool.and_eq_true,decide_eq_true_eq]
theorem mnS_comm (x y:Nat):mnS x y=mnS y x:=by
 simp only [mnS,lesB_iff]
 generalize pop x=a
 generalize pop y=b
 split<;>split<;>omega
theorem mnS_assoc (x y z:Nat):mnS (mnS x y) z=mnS x (mnS y z):=by
 have key:∀ (u v:Nat),lesB v u=true∧mnS u v=v∨(¬ lesB v u=true)∧mnS u v=u:=fun u v=>by
  by_cases h:lesB v u=true<;>simp [mnS,h]
 rcases key x y with ⟨h1,e1⟩ | ⟨h1,e1⟩<;>rcases key y z with ⟨h2,e2⟩ | ⟨h2,e2⟩<;>rw [e1,e2]
 ·rcases key x z with ⟨h3,e3⟩ | ⟨h3,e3⟩
  ·rw [e3]
  ·exfalso
   rw [lesB_iff] at h1 h2 h3
   omega
 ·exact e1.symm
 ·rw [e1]
  rcases key x z with ⟨h4,e4⟩ | ⟨h4,e4⟩
  ·exfalso
   rw [lesB_iff] at h1 h2 h4
   omega
  ·exact e4
theorem join_comm (f g:Fd):f.join g=g.join f:=by
 simp only [Fd.join,mnS_comm f.least g.least,Nat.add_comm f.many,Nat.and_comm f.each,Nat.or_comm f.some]
theorem join_assoc (f g k:Fd):(f.join g).join k=f.join (g.join k):=by
 simp only [Fd.join,mnS_assoc,Nat.add_assoc,Nat.and_assoc,Nat.or_assoc]
theorem zB7 {x:Fd} {l:List Fd} (h:l≠[]):joinL (x::l)=x.join (joinL l):=by
 cases l with
 | nil=>exact absurd rfl h
 | cons y r =>
  simp only [joinL,List.foldl_cons]
  have key:∀ (r:List Fd) (a b:Fd),r.foldl Fd.join (a.join b)=a.join (r.foldl Fd.join b):=by
   intro r
   induction r with
   | nil=>intro a b;rfl
   | cons z r ih=>intro a b;rw [List.foldl_cons,List.foldl_cons,join_assoc,ih]
  exact key r x y
theorem joinL_append:∀ {a b:List Fd},a≠[]→b≠[]→joinL (a++b)=(joinL a).join (joinL b)
 | [],_,h,_=>absurd rfl h
 | [x],b,_,hb=>zB7 hb
 | x::y::r,b,_,hb=>by
  have e1:joinL ((x::y::r)++b)=x.join (joinL ((y::r)++b)):=zB7 (by simp)
  have e2:joinL ((y::r)++b)=(joinL (y::r)).join (joinL b):=joinL_append (by simp) hb
  have e3:joinL (x::y::r)=x.join (joinL (y::r)):=zB7 (by simp)
  rw [e1,e2,e3,join_assoc]
theorem joinL_perm {a b:List Fd} (h:a.Perm b):joinL a=joinL b:=by
 induction h with
 | nil=>rfl
 | @cons x l l' h ih =>
  by_cases e:l=[]
  ·subst e
   have:=h.length_eq
   rw [List.eq_nil_of_length_eq_zero this.symm]
  ·have e':l'≠[]:=by
    intro h0
    subst h0
    exact e (List.eq_nil_of_length_eq_zero h.length_eq)
   rw [zB7 e,zB7 e',ih]
 | swap x y l =>
  by_cases e:l=[]
  ·subst e
   exact join_comm _ _
  ·rw [zB7 (by simp),zB7 e,zB7 (by simp),zB7 e,← join_assoc,← join_assoc,join_comm y x]
 | trans _ _ h1 h2=>rw [h1,h2]
def fdx (x:Nat):Fd:=⟨1,x,x,x⟩
structure Rp (M:List (Lg×Fd)) (X:List Nat) (lam:Nat→Lg):Prop where
 nd:(M.map (·.1)).Nodup
 ne:∀ p∈M,X.filter (fun x=>decide (lam x=p.1))≠[]
 val:∀ p∈M,p.2=joinL ((X.filter (fun x=>decide (lam x=p.1))).map fdx)
 cov:∀ x∈X,lam x∈M.map (·.1)
theorem setLg_mem {l:Lg} {f:Fd}:∀ {M:List (Lg×Fd)},(M.map (·.1)).Nodup→∀ p∈setLg l f M,p=(l,f)∨(p∈M∧p.1≠l)
 | [],_,p,h=>.inl (by simpa [setLg] using h)
 | (k,v)::r,hn,p,h=>by
  simp only [List.map_cons,List.nodup_cons] at hn
  simp only [setLg] at h
  split at h
  ·rename_i e
   rcases List.mem_cons.1 h with h | h
   ·exact .inl h
   ·refine .inr ⟨List.mem_cons_of_mem _ h,fun e2=>hn.1 ?_⟩
    rw [← e,← e2]
    exact List.mem_map_of_mem h
  ·rename_i e
   rcases List.mem_cons.1 h with h | h
   ·subst h
    exact .inr ⟨List.mem_cons_self ..,fun e2=>e e2.symm⟩
   ·rcases setLg_mem hn.2 p h with h | ⟨h1,h2⟩
    ·exact .inl h
    ·exact .inr ⟨List.mem_cons_of_mem _ h1,h2⟩
theorem setLg_keys {l:Lg} {f:Fd}:∀ (M:List (Lg×Fd)),(setLg l f M).map (·.1)=if l∈M.map (·.1) then M.map (·.1) else M.map (·.1)++[l]
 | []=>by simp [setLg]
 | (k,v)::r=>by
  have ih:=setLg_keys (l:=l) (f:=f) r
  simp only [setLg]
  split
  ·rename_i e;subst e;simp
  ·rename_i e
   simp only [List.map_cons,ih,List.mem_cons,e,false_or]
   split<;>simp
theorem getL_none {l:Lg}:∀ {M:List (Lg×Fd)},getL l M=none→l ∉ M.map (·.1)
 | [],_=>by simp
 | (k,v)::r,h=>by
  simp only [getL] at h
  split at h
  ·cases h
  ·rename_i e
   have:=getL_none h
   simp only [List.map_cons,List.mem_cons,not_or]
   exact ⟨e,this⟩
theorem Rp.put {M:List (Lg×Fd)} {X:List Nat} {lam:Nat→Lg} (h:Rp M X lam) {l:Lg} {Y:List Nat} (hn:Y≠[]) (hY:∀ y∈Y,lam y=l):Rp (putF l (joinL (Y.map fdx)) M) (X++Y) lam:=by
 have hYl:Y.filter (fun x=>decide (lam x=l))=Y:=List.filter_eq_self.2 fun y hy=>by simp [hY y hy]
 have hYn:∀ k,k≠l→Y.filter (fun x=>decide (lam x=k))=[]:=fun k hk=>List.filter_eq_nil_iff.2 fun y hy=>by
  have:=hY y hy
  simp only [decide_eq_true_eq]
  intro e
  exact hk (e.symm.trans this)
 refine ⟨?_,?_,?_,?_⟩
 ·rw [putF,setLg_keys]
  split
  ·exact h.nd
  ·rename_i hl
   refine List.nodup_append.2 ⟨h.nd,by simp,?_⟩
   intro a ha b hb e
   rw [List.mem_singleton] at hb
   subst hb
   subst e
   exact hl ha
 ·intro p hp
  rw [List.filter_append]
  rcases setLg_mem h.nd p hp with rfl | ⟨h1,h2⟩
  ·simp only [hYl]
   simp [hn]
  ·rw [hYn _ h2,List.append_nil]
   exact h.ne p h1
 ·intro p hp
  rw [List.filter_append]
  rcases setLg_mem h.nd p hp with rfl | ⟨h1,h2⟩
  ·simp only [hYl]
   cases hg:getL l M with
   | none =>
    have h0:X.filter (fun x=>decide (lam x=l))=[]:=List.filter_eq_nil_iff.2 fun x hx=>by
     simp only [decide_eq_true_eq]
     intro e
     exact getL_none hg (e ▸ h.cov x hx)
    simp only [h0,List.nil_append]
   | some g =>
    have hm:=getL_mem hg
    have h0:=h.ne _ hm
    have h1:=h.val _ hm
    simp only at h0 h1
    simp only [List.map_append]
    rw [joinL_append (by simpa using h0) (by simpa using hn),← h1]
  ·rw [hYn _ h2,List.append_nil]
   exact h.val p h1
 ·intro x hx
  rw [putF,setLg_keys]
  rcases List.mem_append.1 hx with hx | hx
  ·have:=h.cov x hx
   split
   ·exact this
   ·exact List.mem_append_left _ this
  ·rw [hY x hx]
   split
   ·assumption
   ·simp
theorem Rp.nil {lam:Nat→Lg}:Rp [] [] lam:=⟨List.nodup_nil,by simp,by simp,by simp⟩
theorem keys_perm {lam:Nat→Lg}:∀ (K:List Lg) (X:List Nat),K.Nodup→(∀ x∈X,lam x∈K)→(K.flatMap fun k=>X.filter fun x=>decide (lam x=k)).Perm X
 | [],X,_,h=>by
  cases X with
  | nil=>exact .nil
  | cons x r=>exact absurd (h x (by simp)) (by simp)
 | k::K,X,hn,h=>by
  simp only [List.nodup_cons] at hn
  have ih:=keys_perm K (X.filter fun x=>!decide (lam x=k)) hn.2 (fun x hx=>by
   obtain ⟨h1,h2⟩:=List.mem_filter.1 hx
   simp only [Bool.not_eq_true',decide_eq_false_iff_not] at h2
   rcases List.mem_cons.1 (h x h1) with e | e
   ·exact absurd e h2
   ·exact e)
  have e:(K.flatMap fun k'=>(X.filter fun x=>!decide (lam x=k)).filter fun x=>decide (lam x=k'))=K.flatMap fun k'=>X.filter fun x=>decide (lam x=k'):=by
   have:∀ k'∈K,((X.filter fun x=>!decide (lam x=k)).filter fun x=>decide (lam x=k'))=X.filter fun x=>decide (lam x=k'):=by
    intro k' hk'
    rw [List.filter_filter]
    refine List.filter_congr fun x _=>?_
    by_cases e:lam x=k'
    ·have:lam x≠k:=fun e2=>hn.1 (e2 ▸ e ▸ hk')
     simp [e,this]
     intro e3
     exact this (e.trans e3)
    ·simp [e]
   clear ih
   have go:∀ K':List Lg,(∀ k'∈K',k'∈K)→(K'.flatMap fun k'=>(X.filter fun x=>!decide (lam x=k)).filter fun x=>decide (lam x=k'))=K'.flatMap fun k'=>X.filter fun x=>decide (lam x=k'):=by
    intro K'
    induction K' with
    | nil=>intro _;rfl
    | cons a r ih=>intro hK;rw [List.flatMap_cons,List.flatMap_cons,this a (hK a (by simp)),ih fun k' hk'=>hK k' (by simp [hk'])]
   exact go K fun _ h=>h
  rw [List.flatMap_cons]
  rw [e] at ih
  exact ((List.Perm.refl _).append ih).trans (List.filter_append_perm _ _)
def lgN (bs:List (Int×Int)) (film:Int×Int):Nat→Nat→Lg
 | 0,_=>⟨0,0,0⟩
 | j+1,x=>if x.testBit j then (lgN bs film j x).wit (bs.getD j (0,0)) film else lgN bs film j x
section
variable {bs:List (Int×Int)} {film:Int×Int}
theorem lgN_congr:∀ (j:Nat) {x y:Nat},(∀ i,i<j→x.testBit i=y.testBit i)→lgN bs film j x=lgN bs film j y
 | 0,_,_,_=>rfl
 | j+1,x,y,h=>by
  simp only [lgN,h j (Nat.lt_succ_self j),lgN_congr j (fun i hi=>h i (Nat.lt_succ_of_lt hi))]
theorem lgN_low {j x:Nat} (hx:x<2^j):lgN bs film (j+1) x=lgN bs film j x:=by
 simp only [lgN,Nat.testBit_lt_two_pow hx,Bool.false_eq_true,if_false]
theorem lgN_up {j x:Nat} (hx:x<2^j):lgN bs film (j+1) (x ||| 2^j)=(lgN bs film j x).wit (bs.getD j (0,0)) film:=by
 have h1:(x ||| 2^j).testBit j=true:=by simp [Nat.testBit_or]
 have h2:lgN bs film j (x ||| 2^j)=lgN bs film j x:=lgN_congr j fun i hi=>by
  rw [Nat.testBit_or,Nat.testBit_two_pow]
  have:decide (j=i)=false:=by simp;omega
  rw [this,Bool.or_false]
 simp only [lgN,h1,if_true,h2]
theorem pop_up:∀ j<9,∀ a<2^j,pop (a ||| 2^j)=pop a+1∧a ||| 2^j=a+2^j:=by decide +kernel
theorem mnS_up {j a b:Nat} (hj:j<9) (ha:a<2^j) (hb:b<2^j):mnS (a ||| 2^j) (b ||| 2^j)=mnS a b ||| 2^j:=by
 have h:lesB (b ||| 2^j) (a ||| 2^j)=lesB b a:=by
  obtain ⟨a1,a2⟩:=pop_up j hj a ha
  obtain ⟨b1,b2⟩:=pop_up j hj b hb
  rw [Bool.eq_iff_iff,lesB_iff,lesB_iff,a1,b1,a2,b2]
  omega
 simp only [mnS,h]
 split<;>rfl
theorem mnS_lt {a b n:Nat} (ha:a<n) (hb:b<n):mnS a b<n:=by
 simp only [mnS]
 split<;>assumption
theorem wit_join {j:Nat} (hj:j<9) {f g:Fd} (hf:f.least<2^j) (hg:g.least<2^j):(f.join g).wit j=(f.wit j).join (g.wit j):=by
 have h1:(f.each &&& g.each) ||| 2^j=(f.each ||| 2^j) &&& (g.each ||| 2^j):=Nat.eq_of_testBit_eq fun i=>by
  simp only [Nat.testBit_and,Nat.testBit_or]
  cases f.each.testBit i<;>cases g.each.testBit i<;>cases (2^j).testBit i<;>rfl
 have h2:(f.some ||| g.some) ||| 2^j=(f.some ||| 2^j) ||| (g.some ||| 2^j):=Nat.eq_of_testBit_eq fun i=>by
  simp only [Nat.testBit_or]
  cases f.some.testBit i<;>cases g.some.testBit i<;>cases (2^j).testBit i<;>rfl
 simp only [Fd.join,Fd.wit,mnS_up hj hf hg,h1,h2]
theorem join_least (f g:Fd):(f.join g).least=mnS f.least g.least:=by simp only [Fd.join]
theorem joinL_least {n:Nat} (hn:0<n):∀ (Y:List Nat),(∀ y∈Y,y<n)→(joinL (Y.map fdx)).least<n
 | [],_=>hn
 | [x],h=>h x (by simp)
 | x::y::r,h=>by
  have e1:joinL ((x::y::r).map fdx)=(fdx x).join (joinL ((y::r).map fdx)):=zB7 (by simp)
  have e2:(fdx x).least=x:=rfl
  rw [e1,join_least,e2]
  exact mnS_lt (h x (by simp)) (joinL_least hn (y::r) fun z hz=>h z (by simp [hz]))
theorem joinL_wit {j:Nat} (hj:j<9):∀ (Y:List Nat),Y≠[]→(∀ y∈Y,y<2^j)→(joinL (Y.map fdx)).wit j=joinL ((Y.map (· ||| 2^j)).map fdx)
 | [],h,_=>absurd rfl h
 | [x],_,_=>rfl
 | x::y::r,_,h=>by
  have ih:=joinL_wit hj (y::r) (by simp) fun z hz=>h z (by simp [hz])
  have hl:=joinL_least (Nat.two_pow_pos j) (y::r) fun z hz=>h z (by simp [hz])
  have e1:joinL ((x::y::r).map fdx)=(fdx x).join (joinL ((y::r).map fdx)):=zB7 (by simp)
  have e2:joinL (((x::y::r).map (· ||| 2^j)).map fdx)=(fdx (x ||| 2^j)).join (joinL (((y::r).map (· ||| 2^j)).map fdx)):=zB7 (by simp)
  have e3:(fdx x).wit j=fdx (x ||| 2^j):=rfl
  rw [e1,e2,← ih,wit_join hj (h x (by simp)) hl,e3]
theorem joinL_many (Y:List Nat) (h:∀ y∈Y,y<1024):(joinL (Y.map fdx)).Ok∧(joinL (Y.map fdx)).many=Y.length:=by
 have hok:∀ f∈Y.map fdx,f.Ok:=fun f hf=>by
  obtain ⟨y,hy,rfl⟩:=List.mem_map.1 hf
  exact ⟨h y hy,h y hy,h y hy⟩
 obtain ⟨h1,h2⟩:=joinL_ok hok
 refine ⟨h1,?_⟩
 rw [h2]
 clear h1 h2 hok h
 induction Y with
 | nil=>rfl
 | cons y r ih=>simp only [manyS,List.map_cons,List.sum_cons,List.length_cons] at ih ⊢;rw [ih];simp only [fdx];omega
theorem Rp.okM {M:List (Lg×Fd)} {X:List Nat} {lam:Nat→Lg} (h:Rp M X lam) (hX:∀ x∈X,x<1024) (hl:X.length≤300):okM M:=by
 intro p hp
 have hv:=h.val p hp
 obtain ⟨h1,h2⟩:=joinL_many (X.filter fun x=>decide (lam x=p.1)) (fun y hy=>hX y (List.mem_filter.1 hy).1)
 rw [← hv] at h1 h2
 exact ⟨h1,by rw [h2];exact Nat.le_trans (List.length_filter_le _ _) hl⟩
def grp (bs:List (Int×Int)) (film:Int×Int) (j:Nat) (X:List Nat) (l:Lg):List Nat:=X.filter fun x=>decide (lgN bs film j x=l)
theorem grp_nil {bs:List (Int×Int)} {film:Int×Int} {j:Nat} {X:List Nat} {M:List (Lg×Fd)} (h:Rp M X (lgN bs film j)) {p:Lg×Fd} (hp:p∈M):grp bs film j X p.1≠[]:=h.ne p hp
theorem Rp.step {j:Nat} (hj:j<9) {M M':List (Lg×Fd)} {X X':List Nat} (h:Rp M X (lgN bs film j)) (hX:∀ x∈X,x<2^j) (h':Rp M' X' (lgN bs film (j+1))) {p:Lg×Fd} (hp:p∈M) :
  Rp (putF (p.1.wit (bs.getD j (0,0)) film) (p.2.wit j) (putF p.1 p.2 M')) (X'++(grp bs film j X p.1++(grp bs film j X p.1).map (· ||| 2^j))) (lgN bs film (j+1))∧Rp (putF p.1 p.2 M') (X'++grp bs film j X p.1) (lgN bs film (j+1)):=by
 have hv:p.2=joinL ((grp bs film j X p.1).map fdx):=h.val p hp
 have hn:=grp_nil h hp
 have hlt:∀ y∈grp bs film j X p.1,y<2^j∧lgN bs film j y=p.1:=fun y hy=>by
  obtain ⟨h1,h2⟩:=List.mem_filter.1 hy
  exact ⟨hX y h1,by simpa using h2⟩
 have h1:=h'.put hn (l:=p.1) (fun y hy=>by rw [lgN_low (hlt y hy).1];exact (hlt y hy).2)
 rw [← hv] at h1
 refine ⟨?_,h1⟩
 have h2:=h1.put (l:=p.1.wit (bs.getD j (0,0)) film) (Y:=(grp bs film j X p.1).map (· ||| 2^j)) (by simpa using hn) (fun y hy=>by
  obtain ⟨x,hx,rfl⟩:=List.mem_map.1 hy
  rw [lgN_up (hlt x hx).1,(hlt x hx).2])
 rw [← joinL_wit hj _ hn (fun y hy=>(hlt y hy).1),← hv,List.append_assoc] at h2
 exact h2
theorem flatMap_two {α β:Type} (F G:α→List β):∀ K:List α,(K.flatMap fun k=>F k++G k).Perm (K.flatMap F++K.flatMap G)
 | []=>.nil
 | k::K=>by
  simp only [List.flatMap_cons]
  have ih:=flatMap_two F G K
  refine (List.Perm.append_left _ ih).trans ?_
  simp only [List.append_assoc]
  refine List.Perm.append_left _ ?_
  rw [← List.append_assoc,← List.append_assoc]
  exact List.Perm.append_right _ List.perm_append_comm
theorem range_up {j:Nat} (hj:j<9):List.range (2^j)++(List.range (2^j)).map (· ||| 2^j)=List.range (2^(j+1)):=by
 have h:(List.range (2^j)).map (· ||| 2^j)=(List.range (2^j)).map (2^j+·):=by
  refine List.map_congr_left fun a ha=>?_
  rw [(pop_up j hj a (List.mem_range.1 ha)).2,Nat.add_comm]
 rw [h,Nat.pow_succ,Nat.mul_two,List.range_add]
theorem all_step {j:Nat} (hj:j<9) {M:List (Lg×Fd)} {X:List Nat} (h:Rp M X (lgN bs film j)) (hX:X.Perm (List.range (2^j))) {seen:List Nat} (hs:seen.Perm (List.range M.length)) (d:Lg×Fd) :
  (seen.flatMap fun i=>grp bs film j X (M.getD i d).1++(grp bs film j X (M.getD i d).1).map (· ||| 2^j)).Perm (List.range (2^(j+1))):=by
 have e:(List.range M.length).map (fun i=>(M.getD i d).1)=M.map (·.1):=by
  apply List.ext_getElem
  ·simp
  ·intro i h1 h2
   simp only [List.length_map] at h2
   simp [h2]
 refine (hs.flatMap_right _).trans ?_
 refine (flatMap_two _ _ _).trans ?_
 have e1:((List.range M.length).flatMap fun i=>grp bs film j X (M.getD i d).1)=(M.map (·.1)).flatMap fun k=>X.filter fun x=>decide (lgN bs film j x=k):=by
  rw [← e,List.flatMap_map]
  rfl
 have k1:=keys_perm (M.map (·.1)) X h.nd h.cov
 have e2:((List.range M.length).flatMap fun i=>(grp bs film j X (M.getD i d).1).map (· ||| 2^j))=((List.range M.length).flatMap fun i=>grp bs film j X (M.getD i d).1).map (· ||| 2^j):=by
  rw [List.map_flatMap]
 rw [e2,e1,← range_up hj]
 exact (k1.trans hX).append ((k1.trans hX).map _)
end
end Go.Ab
namespace Go.Ab
open Go.Proofs
set_option linter.unusedSimpArgs false
set_option linter.unusedVariables false
set_option maxRecDepth 100000
set_option maxHeartbeats 2000000
variable {H:Heap}
def Met (n:Nat) (seen rest:List Nat):Prop:=(seen++rest).Perm (List.range n)
theorem Met.zero (n:Nat):Met n [] (List.range n):=List.Perm.refl _
theorem Met.fin {n:Nat} {seen rest:List Nat} (h:Met n seen rest) (hs:∀ i,i<n→i∈seen):rest=[]:=by
 cases hr:rest with
 | nil=>rfl
 | cons x r =>
  exfalso
  have hx:x∈List.range n:=h.mem_iff.1 (by rw [hr];simp)
  have h1:=hs x (List.mem_range.1 hx)
  have hd:(seen++rest).Nodup:=h.nodup_iff.2 List.nodup_range
  rw [List.nodup_append] at hd
  exact hd.2.2 x h1 x (by rw [hr];simp) rfl
theorem Met.go {n:Nat} {seen rest:List Nat} (h:Met n seen rest) {i:Nat} (hi:i<n) (hs:i ∉ seen):∃ rest',Met n (seen++[i]) rest'∧rest'.length+1=rest.length:=by
 have hm:i∈seen++rest:=h.mem_iff.2 (List.mem_range.2 hi)
 have hr:i∈rest:=by
  rcases List.mem_append.1 hm with h' | h'
  ·exact absurd h' hs
  ·exact h'
 refine ⟨rest.erase i,?_,?_⟩
 ·have hp:=List.perm_cons_erase hr
  refine List.Perm.trans ?_ h
  rw [List.append_assoc]
  exact (List.Perm.append_left seen hp.symm)
 ·rw [List.length_erase_of_mem hr]
  have:=List.length_pos_of_mem hr
  omega
theorem Met.done {n:Nat} {seen:List Nat} (h:Met n seen []):seen.Perm (List.range n):=by simpa [Met] using h
def Kp (H K:Heap):Prop:=K.take H.length=H
theorem Kp.len {H K:Heap} (h:Kp H K):H.length≤K.length:=by
 have:=congrArg List.length h
 rw [List.length_take] at this
 omega
theorem Kp.refl (H:Heap):Kp H H:=List.take_length
theorem Kp.get {H K:Heap} (h:Kp H K) {i:Nat} (hi:i<H.length):K[i]? = H[i]? := by
 have:(K.take H.length)[i]? = H[i]? := by rw [h]
 rw [← this,List.getElem?_take,if_pos hi]
theorem Kp.app {H K:Heap} (h:Kp H K) (G:Heap):Kp H (K++G):=by
 have:=h.len
 unfold Kp at *
 rw [List.take_append_of_le_length this,h]
theorem Kp.set {H K:Heap} (h:Kp H K) {i:Nat} (hi:H.length≤i) (x:AO):Kp H (K.set i x):=by
 unfold Kp at *
 rw [List.take_set,List.set_eq_of_length_le (by rw [List.length_take];omega),h]
theorem Kp.ex {H K:Heap} (h:Kp H K):∃ G,K=H++G:=⟨K.drop H.length,by
 conv=>lhs;rw [← List.take_append_drop H.length K]
 rw [h]⟩
theorem Kp.trans {A B C:Heap} (h:Kp A B) (h':Kp B C):Kp A C:=by
 obtain ⟨G,rfl⟩:=h.ex
 obtain ⟨G',rfl⟩:=h'.ex
 rw [List.append_assoc]
 exact (Kp.refl A).app _
structure SetAt (H:Heap) (p:Nat) (vb:AV) (bs:List (Int×Int)) (film:Int×Int):Prop where
 box:H[p]? = some (.box (.agg [vb,I film.1,I film.2]))
 sl:SlOk H 2 vb (bs.map spA)
 many:bs.length≤8
 ok:∀ b∈bs,1≤b.1∧b.1≤b.2∧b.2≤500
 film:0≤film.1∧film.1≤film.2∧film.2≤5
theorem SetAt.up {H K:Heap} {p:Nat} {vb:AV} {bs:List (Int×Int)} {film:Int×Int} (h:SetAt H p vb bs film) (hK:Kp H K):SetAt K p vb bs film:=by
 have hp:=(List.getElem?_eq_some_iff.1 h.box).1
 refine ⟨by rw [hK.get hp];exact h.box,?_,h.many,h.ok,h.film⟩
 obtain ⟨G,rfl⟩:=hK.ex
 exact h.sl.app G
theorem SetAt.bd {H:Heap} {p:Nat} {vb:AV} {bs:List (Int×Int)} {film:Int×Int} (h:SetAt H p vb bs film) (j:Nat):0≤(bs.getD j (0,0)).1∧(bs.getD j (0,0)).1≤500∧0≤(bs.getD j (0,0)).2∧(bs.getD j (0,0)).2≤500:=by
 rw [List.getD_eq_getElem?_getD]
 cases e:bs[j]? with
 | none=>simp
 | some b =>
  have:=h.ok b (List.mem_of_getElem? e)
  simp only [Option.getD_some]
  omega
theorem lgN_bd {H:Heap} {p:Nat} {vb:AV} {bs:List (Int×Int)} {film:Int×Int} (h:SetAt H p vb bs film) (x:Nat):∀ j,0≤(lgN bs film j x).lo∧(lgN bs film j x).lo≤505*j∧0≤(lgN bs film j x).hi∧(lgN bs film j x).hi≤505*j∧(lgN bs film j x).many≤j
 | 0=>by simp [lgN]
 | j+1=>by
  have ih:=lgN_bd h x j
  have hb:=h.bd j
  have hf:=h.film
  simp only [lgN]
  split
  ·simp only [Lg.wit]
   refine ⟨?_,?_,?_,?_,?_⟩<;>(try split)<;>omega
  ·omega
theorem enM_at {M:List (Lg×Fd)} {i:Nat} (hi:i<M.length):(enM M).getD i (.undef,.undef)=(lgA (M.getD i (⟨0,0,0⟩,⟨0,0,0,0⟩)).1,fdA (M.getD i (⟨0,0,0⟩,⟨0,0,0,0⟩)).2):=by
 simp [enM,hi]
theorem enM_at2 {M:List (Lg×Fd)} {i:Nat} (hi:i<M.length):(enM M)[i]? = some (lgA (M.getD i (⟨0,0,0⟩,⟨0,0,0,0⟩)).1,fdA (M.getD i (⟨0,0,0⟩,⟨0,0,0,0⟩)).2):=by
 simp [enM,hi]
theorem enM_len (M:List (Lg×Fd)):(enM M).length=M.length:=List.length_map _
theorem getD_memM {M:List (Lg×Fd)} {i:Nat} (hi:i<M.length) (d:Lg×Fd):M.getD i d∈M:=by
 rw [List.getD_eq_getElem?_getD,List.getElem?_eq_getElem hi]
 exact List.getElem_mem hi
def doneX (bs:List (Int×Int)) (film:Int×Int) (j:Nat) (M:List (Lg×Fd)) (X:List Nat) (seen:List Nat):List Nat :=
 seen.flatMap fun i=>grp bs film j X (M.getD i (⟨0,0,0⟩,⟨0,0,0,0⟩)).1++(grp bs film j X (M.getD i (⟨0,0,0⟩,⟨0,0,0,0⟩)).1).map (· ||| 2^j)
theorem doneX_bd {bs:List (Int×Int)} {film:Int×Int} {j:Nat} (hj:j<8) {M:List (Lg×Fd)} {X:List Nat} (h:Rp M X (lgN bs film j)) (hX:X.Perm (List.range (2^j))) {seen rest:List Nat} (hm:Met M.length seen rest) :
  (∀ x∈doneX bs film j M X seen,x<1024)∧(doneX bs film j M X seen).length≤256:=by
 have hp:=all_step (show j<9 by omega) h hX hm (⟨0,0,0⟩,⟨0,0,0,0⟩)
 have e:(doneX bs film j M X (seen++rest))=doneX bs film j M X seen++doneX bs film j M X rest:=by simp only [doneX,List.flatMap_append]
 change (doneX bs film j M X (seen++rest)).Perm _ at hp
 rw [e] at hp
 have h2:2^(j+1)≤2^8:=Nat.pow_le_pow_right (by omega) (by omega)
 refine ⟨fun x hx=>?_,?_⟩
 ·have:=List.mem_range.1 (hp.mem_iff.1 (List.mem_append_left _ hx))
  omega
 ·have:=hp.length_eq
  rw [List.length_append,List.length_range] at this
  omega
abbrev FL (H:Heap):FI:=⟨89,none,false,H.length⟩
abbrev eL (p:Nat) (vb:AV) (n:Nat) (E:Env):Prop:=E.get 0=.ptr p 0∧E.get 4=.func (.func 91) [] []∧E.get 17=vb∧E.get 18=I n
theorem le_in {p:Nat} {vb:AV} {bs:List (Int×Int)} {film:Int×Int} (hs:SetAt H p vb bs film) {j:Nat} (hj:j<bs.length) {Q:Done→Prop} {M:List (Lg×Fd)} {X:List Nat} (hR:Rp M X (lgN bs film j)) (hX:X.Perm (List.range (2^j)))
  {m it b6 m':Nat} (h1:H.length≤m) (h2:H.length≤it) (h4:H.length≤m') (n1:it≠m) (n2:it≠m') (n3:it≠b6) (n4:m'≠m) (n5:m'≠b6)
  (hend:∀ (K:Heap) (M':List (Lg×Fd)) (X':List Nat),Kp H K→K[m']? = some (.map 168 (enM M'))→X'.Perm (List.range (2^(j+1)))→Rp M' X' (lgN bs film (j+1))→∀ E:Env,E.get 0=.ptr p 0→E.get 3=.map m'→E.get 4=.func (.func 91) [] []→E.get 17=vb→E.get 18=I bs.length→E.get 19=I (j+1:Nat) →
   KW cfg0 zA0 (.exec (FL H) (zA7 Tryz.f89 4) ⟨E,[],K,none⟩) Q) :
  ∀ (q:Nat) (seen rest:List Nat),rest.length=q→Met M.length seen rest→∀ (K:Heap) (M':List (Lg×Fd)),Kp H K→K[it]? = some (.iter m M.length seen)→K[m]? = some (.map 168 (enM M))→K[b6]? = some (.box (spA (bs.getD j (0,0))))→K[m']? = some (.map 168 (enM M'))→Rp M' (doneX bs film j M X seen) (lgN bs film (j+1)) →
   ∀ E:Env,E.get 0=.ptr p 0→E.get 4=.func (.func 91) [] []→E.get 5=I j→E.get 6=.ptr b6 0→E.get 7=.map m'→E.get 17=vb→E.get 18=I bs.length→E.get 19=I j→E.get 26=.ptr it 0 →
   KW cfg0 zA0 (.exec (FL H) (zA7 Tryz.f89 8) ⟨E,[],K,none⟩) Q:=by
 have hk':True:=trivial
 have hj8:j<8:=Nat.lt_of_lt_of_le hj hs.many
 have hXl:∀ x∈X,x<2^j:=fun x hx=>List.mem_range.1 (hX.mem_iff.1 hx)
 have hp2:2^j<2^8:=two_pow_lt (by omega)
 intro q
 induction q with
 | zero =>
  intro seen rest hq hmet K M' hK k1 k2 k3 k4 hR' E g0 g4 g5 g6 g7 g17 g18 g19 g26
  simp only [zAb,zA4,zA7,zAa,zA3,↓reduceIte,Option.some.injEq,Nat.reduceEqDiff,reduceCtorEq,Tryz.f89]
  rw [kw_inLoop]
  simp -implicitDefEqProofs (maxSteps:=1000000) (disch:=first|rfl|omega|assumption) only [go_sem,g0,g4,g5,g6,g7,g17,g18,g19,g26,ltT,ltF,leT,hk']
  refine kw_nx (e:=E) (df:=[]) (H:=K) (pn:=none) (n:=M.length) (m:=m) (seen:=seen) (li:=it) (kt:=168) (es:=enM M) (by simp -implicitDefEqProofs (maxSteps:=1000000) (disch:=first|rfl|omega|assumption) only [go_sem,g0,g4,g5,g6,g7,g17,g18,g19,g26,ltT,ltF,leT,hk']) (by simp -implicitDefEqProofs (maxSteps:=1000000) (disch:=first|rfl|omega|assumption) only [go_sem,g0,g4,g5,g6,g7,g17,g18,g19,g26,ltT,ltF,leT,hk']) k1 k2 (enM_len M) ?_ ?_
  ·intro hall
   have hre:=hmet.fin hall
   rw [hre] at hmet
   have hset:K.set it (.iter m M.length seen)=K:=by
    have hl:=List.getElem?_eq_some_iff.1 k1
    obtain ⟨hl1,hl2⟩:=hl
    rw [← hl2]
    exact List.set_getElem_self hl1
   rw [hset]
   simp -implicitDefEqProofs (maxSteps:=1000000) (disch:=first|rfl|omega|assumption) only [go_sem,g0,g4,g5,g6,g7,g17,g18,g19,g26,ltT,ltF,leT,hk']
   have key:=hend K M' _ hK k4 (all_step (by omega) hR hX hmet.done (⟨0,0,0⟩,⟨0,0,0,0⟩)) hR'
   exact key _ (by exact g0) (by rfl) (by exact g4) (by exact g17) (by exact g18) (by rfl)
  ·intro i hi hs
   obtain ⟨rest',h1,h2⟩:=hmet.go hi hs
   omega
 | succ q ih =>
  intro seen rest hq hmet K M' hK k1 k2 k3 k4 hR' E g0 g4 g5 g6 g7 g17 g18 g19 g26
  simp only [zAb,zA4,zA7,zAa,zA3,↓reduceIte,Option.some.injEq,Nat.reduceEqDiff,reduceCtorEq,Tryz.f89]
  rw [kw_inLoop]
  simp -implicitDefEqProofs (maxSteps:=1000000) (disch:=first|rfl|omega|assumption) only [go_sem,g0,g4,g5,g6,g7,g17,g18,g19,g26,ltT,ltF,leT,hk']
  refine kw_nx (e:=E) (df:=[]) (H:=K) (pn:=none) (n:=M.length) (m:=m) (seen:=seen) (li:=it) (kt:=168) (es:=enM M) (by simp -implicitDefEqProofs (maxSteps:=1000000) (disch:=first|rfl|omega|assumption) only [go_sem,g0,g4,g5,g6,g7,g17,g18,g19,g26,ltT,ltF,leT,hk']) (by simp -implicitDefEqProofs (maxSteps:=1000000) (disch:=first|rfl|omega|assumption) only [go_sem,g0,g4,g5,g6,g7,g17,g18,g19,g26,ltT,ltF,leT,hk']) k1 k2 (enM_len M) ?_ ?_
  ·intro hall
   have hre:=hmet.fin hall
   rw [hre] at hq
   simp at hq
  ·intro i hi hns
   obtain ⟨rest',hm1,hm2⟩:=hmet.go hi hns
   have hmem:=getD_memM hi (⟨0,0,0⟩,⟨0,0,0,0⟩)
   have hat:=enM_at hi
   have hat2:=enM_at2 hi
   obtain ⟨hR2,hR1⟩:=hR.step (show j<9 by omega) hXl hR' hmem
   have key:=ih (seen++[i]) rest' (by omega) hm1
   have hdx:doneX bs film j M X (seen++[i])=doneX bs film j M X seen++(grp bs film j X (M.getD i (⟨0,0,0⟩,⟨0,0,0,0⟩)).1++(grp bs film j X (M.getD i (⟨0,0,0⟩,⟨0,0,0,0⟩)).1).map (· ||| 2^j)):=by
    simp only [doneX,List.flatMap_append,List.flatMap_cons,List.flatMap_nil,List.append_nil]
   rw [← hdx] at hR2
   have hok:=hR.okM (fun x hx=>by have:=hXl x hx;omega) (by rw [hX.length_eq,List.length_range];omega) _ hmem
   have hdb:=doneX_bd hj8 hR hX hm1
   rw [hdx] at hdb
   have hM':okM M':=hR'.okM (fun x hx=>hdb.1 x (List.mem_append_left _ hx)) (by have:=hdb.2;rw [List.length_append] at this;omega)
   have hM1:=hR1.okM (fun x hx=>by
    rcases List.mem_append.1 hx with hx | hx
    ·exact hdb.1 x (List.mem_append_left _ hx)
    ·exact hdb.1 x (List.mem_append_right _ (List.mem_append_left _ hx))) (by have:=hdb.2;simp only [List.length_append] at this ⊢;omega)
   obtain ⟨x0,hx0,hl0⟩:∃ x∈X,lgN bs film j x=(M.getD i (⟨0,0,0⟩,⟨0,0,0,0⟩)).1:=by
    have hne:=hR.ne _ hmem
    obtain ⟨y,r,hyr⟩:=List.exists_cons_of_ne_nil hne
    have:y∈X.filter fun x=>decide (lgN bs film j x=(M.getD i (⟨0,0,0⟩,⟨0,0,0,0⟩)).1):=by rw [hyr];simp
    obtain ⟨h1,h2⟩:=List.mem_filter.1 this
    exact ⟨y,h1,by simpa using h2⟩
   have hlb:=lgN_bd hs x0 j
   rw [hl0] at hlb
   clear hdx hdb hmem hl0 hR1
   obtain ⟨⟨l,f⟩,hp⟩:∃ p,M.getD i (⟨0,0,0⟩,⟨0,0,0,0⟩)=p:=⟨_,rfl⟩
   rw [hp] at hat hat2 hR2 hok hM1 hlb
   simp only at hat hat2 hR2 hok hM1 hlb
   rw [hat]
   have il:=(List.getElem?_eq_some_iff.1 k1).1
   have q1:(K.set it (.iter m M.length (seen++[i])))[it]? = some (.iter m M.length (seen++[i])):=by rw [List.getElem?_set_self il]
   have q2:(K.set it (.iter m M.length (seen++[i])))[m]? = some (.map 168 (enM M)):=by rw [List.getElem?_set_ne n1];exact k2
   have q3:(K.set it (.iter m M.length (seen++[i])))[b6]? = some (.box (spA (bs.getD j (0,0)))):=by rw [List.getElem?_set_ne n3];exact k3
   have q4:(K.set it (.iter m M.length (seen++[i])))[m']? = some (.map 168 (enM M')):=by rw [List.getElem?_set_ne n2];exact k4
   have hK1:Kp H (K.set it (.iter m M.length (seen++[i]))):=hK.set h2 _
   generalize K.set it (.iter m M.length (seen++[i]))=K1 at q1 q2 q3 q4 hK1 ⊢
   have hput:=st_put (H:=K1++[AO.box (lgA l),AO.box (fdA f)]) hM' (m:=m') (by rw [List.getElem?_append_left (List.getElem?_eq_some_iff.1 q4).1];exact q4) l hok.1 hok.2
   have p1:=(List.getElem?_eq_some_iff.1 q1).1
   have p2:=(List.getElem?_eq_some_iff.1 q2).1
   have p3:=(List.getElem?_eq_some_iff.1 q3).1
   have p4:=(List.getElem?_eq_some_iff.1 q4).1
   have r1:((K1++[AO.box (lgA l),AO.box (fdA f)]).set m' (.map 168 (enM (putF l f M'))))[it]? = some (.iter m M.length (seen++[i])):=by rw [List.getElem?_set_ne (Ne.symm n2),List.getElem?_append_left p1];exact q1
   have r2:((K1++[AO.box (lgA l),AO.box (fdA f)]).set m' (.map 168 (enM (putF l f M'))))[m]? = some (.map 168 (enM M)):=by rw [List.getElem?_set_ne n4,List.getElem?_append_left p2];exact q2
   have r3:((K1++[AO.box (lgA l),AO.box (fdA f)]).set m' (.map 168 (enM (putF l f M'))))[b6]? = some (.box (spA (bs.getD j (0,0)))):=by rw [List.getElem?_set_ne n5,List.getElem?_append_left p3];exact q3
   have r4:((K1++[AO.box (lgA l),AO.box (fdA f)]).set m' (.map 168 (enM (putF l f M'))))[m']? = some (.map 168 (enM (putF l f M'))):=by rw [List.getElem?_set_self (by rw [List.length_append];omega)]
   have r5:((K1++[AO.box (lgA l),AO.box (fdA f)]).set m' (.map 168 (enM (putF l f M'))))[K1.length]? = some (.box (lgA l)):=by rw [List.getElem?_set_ne (by omega)];simp
   have r6:((K1++[AO.box (lgA l),AO.box (fdA f)]).set m' (.map 168 (enM (putF l f M'))))[K1.length+1]? = some (.box (fdA f)):=by rw [List.getElem?_set_ne (by omega)];simp
   have hK2:Kp H ((K1++[AO.box (lgA l),AO.box (fdA f)]).set m' (.map 168 (enM (putF l f M')))):=(hK1.app _).set h4 _
   generalize (K1++[AO.box (lgA l),AO.box (fdA f)]).set m' (.map 168 (enM (putF l f M')))=K2 at hput r1 r2 r3 r4 r5 r6 hK2
   have hfw:(f.wit j).Ok:=⟨Nat.or_lt_two_pow (n:=10) hok.1.1 (two_pow_lt (by omega)),Nat.or_lt_two_pow (n:=10) hok.1.2.1 (two_pow_lt (by omega)),Nat.or_lt_two_pow (n:=10) hok.1.2.2 (two_pow_lt (by omega))⟩
   have hput2:=st_put (H:=K2) hM1 r4 (l.wit (bs.getD j (0,0)) film) hfw hok.2
   have s1:(K2.set m' (.map 168 (enM (putF (l.wit (bs.getD j (0,0)) film) (f.wit j) (putF l f M')))))[it]? = some (.iter m M.length (seen++[i])):=by rw [List.getElem?_set_ne (Ne.symm n2)];exact r1
   have s2:(K2.set m' (.map 168 (enM (putF (l.wit (bs.getD j (0,0)) film) (f.wit j) (putF l f M')))))[m]? = some (.map 168 (enM M)):=by rw [List.getElem?_set_ne n4];exact r2
   have s3:(K2.set m' (.map 168 (enM (putF (l.wit (bs.getD j (0,0)) film) (f.wit j) (putF l f M')))))[b6]? = some (.box (spA (bs.getD j (0,0)))):=by rw [List.getElem?_set_ne n5];exact r3
   have s4:(K2.set m' (.map 168 (enM (putF (l.wit (bs.getD j (0,0)) film) (f.wit j) (putF l f M')))))[m']? = some (.map 168 (enM (putF (l.wit (bs.getD j (0,0)) film) (f.wit j) (putF l f M')))):=by rw [List.getElem?_set_self (List.getElem?_eq_some_iff.1 r4).1]
   have s5:(K2.set m' (.map 168 (enM (putF (l.wit (bs.getD j (0,0)) film) (f.wit j) (putF l f M')))))[K1.length]? = some (.box (lgA l)):=by rw [List.getElem?_set_ne (by omega)];exact r5
   have s6:(K2.set m' (.map 168 (enM (putF (l.wit (bs.getD j (0,0)) film) (f.wit j) (putF l f M')))))[K1.length+1]? = some (.box (fdA f)):=by rw [List.getElem?_set_ne (by omega)];exact r6
   have hK3:Kp H (K2.set m' (.map 168 (enM (putF (l.wit (bs.getD j (0,0)) film) (f.wit j) (putF l f M'))))):=hK2.set h4 _
   have hps:=(hs.up hK2).box
   have hps3:=(hs.up hK3).box
   generalize K2.set m' (.map 168 (enM (putF (l.wit (bs.getD j (0,0)) film) (f.wit j) (putF l f M'))))=K3 at hput2 s1 s2 s3 s4 s5 s6 hK3 hps3
   have hbd:=hs.bd j
   have hfi:=hs.film
   have hw:=lg_with (H:=K2) (l:=l) (b:=bs.getD j (0,0)) (film:=film) (by omega) (by omega) (by omega)
   have w1:=st_with (H:=K2) (x:=f.least) (i:=j) hok.1.1 (by omega)
   have w2:=st_with (H:=K2) (x:=f.each) (i:=j) hok.1.2.1 (by omega)
   have w3:=st_with (H:=K2) (x:=f.some) (i:=j) hok.1.2.2 (by omega)
   have hlm:=enM_len M
   have key2:=key K3 _ hK3 s1 s2 s3 s4 hR2
   clear key ih hend hR hX hR' hR2 hM1 hM' hmet hm1 hm2 hXl hs
   generalize bs.getD j (0,0)=b at *
   obtain ⟨b1,b2⟩:=b
   obtain ⟨f1,f2⟩:=film
   obtain ⟨lo,hi',many⟩:=l
   obtain ⟨fm,fl,fe,fs⟩:=f
   simp only [lgA,fdA,spA,Fd.wit] at *
   simp -implicitDefEqProofs (maxSteps:=1000000) (disch:=first|rfl|omega|assumption) only [go_sem,g0,g4,g5,g6,g7,g17,g18,g19,g26,ltT,ltF,leT,hk',q1,q2,hlm,hat2,zA6 p1,zA6 p2,zA6 p3,zA6 p4,hput,r1,r2,r3,r5,r6,hps]
   rw [zAg];rotate_left;kernel_rfl
   simp -implicitDefEqProofs (maxSteps:=1000000) (disch:=first|rfl|omega|assumption) only [go_sem,g0,g4,g5,g6,g7,g17,g18,g19,g26,ltT,ltF,leT,hk',hput,r1,r2,r3,r5,r6,hps,hw,w1,w2,w3,hput2,s1,s2,s3,s5,s6,hps3]
   exact key2 _ (by exact g0) (by exact g4) (by exact g5) (by exact g6) (by exact g7) (by exact g17) (by exact g18) (by exact g19) (by exact g26)
def zLg:Lg:=⟨0,0,0⟩
def idL (l:Lg):List (Lg×Fd)→Nat
 | []=>0
 | (k,_)::r=>if l=k then 0 else idL l r+1
theorem idxL (l:Lg):∀ M:List (Lg×Fd),idxM (lgA l) (enM M)=idL l M
 | []=>rfl
 | (k,v)::r=>by
  have:=idxL l r
  simp only [enM,List.map_cons,idxM,idL,lg_same,decide_eq_true_eq] at this ⊢
  rw [this]
theorem idL_at {l:Lg} {d:Lg×Fd}:∀ {M:List (Lg×Fd)},l∈M.map (·.1)→idL l M<M.length∧(M.getD (idL l M) d).1=l
 | [],h=>by simp at h
 | (k,v)::r,h=>by
  simp only [idL]
  split
  ·rename_i e;subst e;simp
  ·rename_i e
   have h':l∈r.map (·.1):=by
    rcases List.mem_cons.1 h with h | h
    ·exact absurd h e
    ·exact h
   obtain ⟨h1,h2⟩:=idL_at (d:=d) h'
   exact ⟨by simp only [List.length_cons];omega,by simpa using h2⟩
theorem getL_isSome {l:Lg}:∀ {M:List (Lg×Fd)},l∈M.map (·.1)→(getL l M).isSome=true
 | [],h=>by simp at h
 | (k,v)::r,h=>by
  simp only [getL]
  split
  ·rfl
  ·rename_i e
   rcases List.mem_cons.1 h with h | h
   ·exact absurd h e
   ·exact getL_isSome h
theorem lgN_zero {bs:List (Int×Int)} {film:Int×Int}:∀ j,lgN bs film j 0=zLg
 | 0=>rfl
 | j+1=>by simp only [lgN,Nat.zero_testBit,Bool.false_eq_true,if_false,lgN_zero j]
def LenQ (H:Heap) (bs:List (Int×Int)) (film:Int×Int) (Q:Done→Prop):Prop :=
 ∀ (K:Heap) (m i:Nat) (M:List (Lg×Fd)) (X:List Nat),Kp H K→H.length≤m→K[m]? = some (.dmap 168 (enM M) i)→i<M.length→(M.getD i (⟨0,0,0⟩,⟨0,0,0,0⟩)).1=zLg→X.Perm (List.range (2^bs.length))→Rp M X (lgN bs film bs.length)→Q ⟨.ret (.map m),K,none⟩
theorem fin_map {N m:Nat} {K:Heap} (h:N≤m):zAi N ⟨.ret (.map m),K,none⟩=⟨.ret (.map m),K,none⟩:=by
 have:¬ m<N:=by omega
 simp [zAi,sealT,sealV,sealG,AV.lt,this]
theorem le_out {p:Nat} {vb:AV} {bs:List (Int×Int)} {film:Int×Int} (hs:SetAt H p vb bs film) {Q:Done→Prop} (hQ:LenQ H bs film Q) :
  ∀ (q j:Nat),j+q=bs.length→∀ (K:Heap) (m:Nat) (M:List (Lg×Fd)) (X:List Nat),Kp H K→H.length≤m→K[m]? = some (.map 168 (enM M))→X.Perm (List.range (2^j))→Rp M X (lgN bs film j) →
   ∀ E:Env,E.get 0=.ptr p 0→E.get 3=.map m→E.get 4=.func (.func 91) [] []→E.get 17=vb→E.get 18=I bs.length→E.get 19=I j →
   KW cfg0 zA0 (.exec (FL H) (zA7 Tryz.f89 4) ⟨E,[],K,none⟩) (fun D=>Q (finN false false H.length D)):=by
 have hk':True:=trivial
 have h8:=hs.many
 intro q
 induction q with
 | zero =>
  intro j hj K m M X hK hm k1 hX hR E g0 g3 g4 g17 g18 g19
  have hjn:j=bs.length:=by omega
  have hnl:¬ (j:Int)<bs.length:=by omega
  simp only [zAb,zA4,zA7,zAa,zA3,↓reduceIte,Option.some.injEq,Nat.reduceEqDiff,reduceCtorEq,Tryz.f89]
  rw [kw_inLoop]
  have hz:zLg∈M.map (·.1):=by
   have:=hR.cov 0 (hX.mem_iff.2 (List.mem_range.2 (Nat.two_pow_pos j)))
   rwa [lgN_zero] at this
  have hlook:=lookL zLg M
  obtain ⟨g,hg⟩:=Option.isSome_iff_exists.1 (getL_isSome hz)
  rw [hg] at hlook
  have hidx:=idxL zLg M
  obtain ⟨i1,i2⟩:=idL_at (d:=(⟨0,0,0⟩,⟨0,0,0,0⟩)) hz
  have ml:=(List.getElem?_eq_some_iff.1 k1).1
  have key:=hQ (K.set m (.dmap 168 (enM M) (idL zLg M))) m (idL zLg M) M X (hK.set hm _) hm (by rw [List.getElem?_set_self ml]) i1 i2 (hjn ▸ hX) (hjn ▸ hR)
  rw [← fin_map (N:=H.length) hm] at key
  simp only [zLg,lgA,Option.map_some,Int.natCast_zero] at hlook hidx key
  simp -implicitDefEqProofs (maxSteps:=1000000) (disch:=first|rfl|omega|assumption) only [go_sem,g0,g3,g4,g17,g18,g19,ltT,ltF,leT,hk',hnl,k1,hlook,hidx,Option.isSome_some]
  exact key
 | succ q ih =>
  intro j hj K m M X hK hm k1 hX hR E g0 g3 g4 g17 g18 g19
  have hjn:j<bs.length:=by omega
  have hjl:(j:Int)<bs.length:=by omega
  obtain ⟨a1,a2,a3,a4,a5⟩:=(hs.up hK).sl.fF (d:=(0,0))
  obtain ⟨⟨b1,b2⟩,hxe⟩:∃ x,bs.getD j (0,0)=x:=⟨_,rfl⟩
  have ml:=(List.getElem?_eq_some_iff.1 k1).1
  have hlm:=enM_len M
  have hN:=hK.len
  have key:=le_in hs hjn (Q:=fun D=>Q (finN false false H.length D)) hR hX (m:=m) (it:=K.length+2) (b6:=K.length) (m':=K.length+1) hm (by omega) (by omega) (by omega) (by omega) (by omega) (by omega) (by omega)
   (fun K' M' X' hK' hm' hX' hR' E' e0 e3 e4 e17 e18 e19=>ih (j+1) (by omega) K' (K.length+1) M' X' hK' (by omega) hm' hX' hR' E' e0 e3 e4 e17 e18 e19) _ [] _ rfl (Met.zero M.length)
   (K++[.box (spA (bs.getD j (0,0))),.map 168 [],.iter m M.length []]) [] (hK.app _) (by simp) (by rw [List.getElem?_append_left ml];exact k1) (by simp) (by simp [enM]) Rp.nil
  rw [hxe] at key
  simp only [spA] at key
  simp only [zAb,zA4,zA7,zAa,zA3,↓reduceIte,Option.some.injEq,Nat.reduceEqDiff,reduceCtorEq,Tryz.f89]
  rw [kw_inLoop]
  simp -implicitDefEqProofs (maxSteps:=1000000) (disch:=first|rfl|omega|assumption) only [go_sem,g0,g3,g4,g17,g18,g19,ltT,ltF,leT,hk',hjl,a1,a2,a3,a4,a5,hxe,spA,zA6 ml,k1,hlm]
  exact key _ (by exact g0) (by exact g4) (by rfl) (by rfl) (by rfl) (by exact g17) (by exact g18) (by exact g19) (by rfl)
theorem st_lengths {p:Nat} {vb:AV} {bs:List (Int×Int)} {film:Int×Int} (hs:SetAt H p vb bs film) {Q:Done→Prop} (hQ:LenQ H bs film Q) :
  KW cfg0 zA0 (.call 89 [.ptr p 0] H) Q:=by
 have hp:=hs.box
 have hpl:=(List.getElem?_eq_some_iff.1 hp).1
 have hlen:=hs.sl.len
 rw [List.length_map] at hlen
 have hR:Rp [(zLg,fdx 0)] [0] (lgN bs film 0):=⟨by simp,by simp [lgN,zLg],by simp [lgN,zLg,joinL],by simp [lgN,zLg]⟩
 have key:=le_out hs hQ bs.length 0 (by omega) (H++[.map 168 (enM [(zLg,⟨1,0,0,0⟩)])]) H.length [(zLg,⟨1,0,0,0⟩)] [0] ((Kp.refl H).app _) (Nat.le_refl _) (by simp) (by simp) hR
 simp only [enM,List.map_cons,List.map_nil,zLg,lgA,fdA] at key
 rw [kw_enter fn89 rfl (by simp [Tryz.f89])]
 simp -implicitDefEqProofs (maxSteps:=1000000) (disch:=first|rfl|omega|assumption) only [go_sem,ltT,ltF,leT,zA6 hpl,hp,hlen]
 exact key _ (by rfl) (by rfl) (by rfl) (by rfl) (by rfl) (by rfl)
theorem st_that (p:Nat) (T:TypeId) (a:AV) (H:Heap):zA8 cfg0 zA0 false 85 [.ptr p 0,.iface T a] H none=some ⟨.ret (.func (.func 88) [] [.ptr H.length 0,.ptr (H.length+1) 0]),H++[.box (.ptr p 0),.box (.iface T a)],none⟩:=by
 refine (zA1 fn85 rfl (by simp [Tryz.f85])).trans ?_
 simp -implicitDefEqProofs (maxSteps:=1000000) (disch:=first|rfl|omega|assumption) only [go_sem,ltT,ltF,leT]
 done
def isB (w:Int×Int) (l:Lg):Bool:=decide (w.1≤l.lo)&&decide (l.hi≤w.2)
structure AllAt (H:Heap) (p:Nat) (w:Int×Int) (r:ALoop) (xs:List Fd) (K:Heap):Prop where
 old:Kp H K
 len:H.length+7≤K.length
 z:K[H.length]? = some (.box (.agg [I 0,U 0,U 0,U 0]))
 g:K[H.length+1]? = some (.grow 4 (xs.map fdA))
 b:K[H.length+2]? = some (.box (.gsl (H.length+1) xs.length))
 s:K[H.length+3]? = some (.box (.ptr p 0))
 a:K[H.length+4]? = some (.box (.iface 136 (spA w)))
 d:K[H.length+5]? = some .dfr
 l:K[H.length+6]? = some (.loop r)
noncomputable abbrev rA (H:Heap) (e:Env):ALoop:=zAq Tryz.f75 75 0 e (H.length+5)
theorem all_hear {p:Nat} {w:Int×Int} {e:Env} (he:e.get 6=.ptr (H.length+2) 0) {xs:List Fd} {K:Heap} (hK:AllAt H p w (rA H e) xs K) (l:Lg) (f:Fd) (hx:xs.length≤300) (b:Nat) :
  ∃ K',zAw cfg0 zA0 b false (.yield (H.length+6)) [lgA l,fdA f] [] K none=some ⟨.ret (.bool true),K',none⟩∧AllAt H p w (rA H e) (xs++[f]) K'∧K'.length=K.length∧∀ i,H.length+7≤i→K'[i]? = K[i]? := by
 have hl:=hK.len
 have e1:H.length+1<K.length:=by omega
 have e2:H.length+2<K.length:=by omega
 have e6:H.length+6<K.length:=by omega
 obtain ⟨K2,h2⟩:∃ K2,K.set (H.length+6) (.loop { rA H e with state:=.busy })=K2:=⟨_,rfl⟩
 have l2:K2.length=K.length:=by rw [← h2,List.length_set]
 have g2:∀ i,i≠H.length+6→K2[i]? = K[i]? := fun i hi=>by rw [← h2,List.getElem?_set_ne (Ne.symm hi)]
 have s2:K2[H.length+6]? = some (.loop { rA H e with state:=.busy }):=by rw [← h2,List.getElem?_set_self e6]
 obtain ⟨K3,h3⟩:∃ K3,K2.set (H.length+1) (.grow 4 ((xs++[f]).map fdA))=K3:=⟨_,rfl⟩
 have l3:K3.length=K.length:=by rw [← h3,List.length_set,l2]
 have g3:∀ i,i≠H.length+1→K3[i]? = K2[i]? := fun i hi=>by rw [← h3,List.getElem?_set_ne (Ne.symm hi)]
 have s3:K3[H.length+1]? = some (.grow 4 ((xs++[f]).map fdA)):=by rw [← h3,List.getElem?_set_self (by omega)]
 obtain ⟨K4,h4⟩:∃ K4,K3.set (H.length+2) (.box (.gsl (H.length+1) (xs.length+1)))=K4:=⟨_,rfl⟩
 have l4:K4.length=K.length:=by rw [← h4,List.length_set,l3]
 have g4:∀ i,i≠H.length+2→K4[i]? = K3[i]? := fun i hi=>by rw [← h4,List.getElem?_set_ne (Ne.symm hi)]
 have s4:K4[H.length+2]? = some (.box (.gsl (H.length+1) (xs.length+1))):=by rw [← h4,List.getElem?_set_self (by omega)]
 obtain ⟨K5,h5⟩:∃ K5,K4.set (H.length+6) (.loop (rA H e))=K5:=⟨_,rfl⟩
 have l5:K5.length=K.length:=by rw [← h5,List.length_set,l4]
 have g5:∀ i,i≠H.length+6→K5[i]? = K4[i]? := fun i hi=>by rw [← h5,List.getElem?_set_ne (Ne.symm hi)]
 have s5:K5[H.length+6]? = some (.loop (rA H e)):=by rw [← h5,List.getElem?_set_self (by omega)]
 have all:∀ i,i≠H.length+1→i≠H.length+2→i≠H.length+6→K5[i]? = K[i]? := fun i a1 a2 a6=>by rw [g5 i a6,g4 i a2,g3 i a1,g2 i a6]
 have kp:Kp H K5:=by
  rw [← h5,← h4,← h3,← h2]
  exact (((hK.old.set (by omega) _).set (by omega) _).set (by omega) _).set (by omega) _
 refine ⟨K5,?_,⟨kp,by omega,?_,?_,?_,?_,?_,?_,s5⟩,l5,fun i hi=>all i (by omega) (by omega) (by omega)⟩
 rotate_left
 ·rw [all _ (by omega) (by omega) (by omega)];exact hK.z
 ·rw [g5 _ (by omega),g4 _ (by omega)];exact s3
 ·rw [g5 _ (by omega),s4];simp
 ·rw [all _ (by omega) (by omega) (by omega)];exact hK.s
 ·rw [all _ (by omega) (by omega) (by omega)];exact hK.a
 ·rw [all _ (by omega) (by omega) (by omega)];exact hK.d
 ·have k6:=hK.l
  have m4:K2[H.length+2]? = some (.box (.gsl (H.length+1) xs.length)):=by rw [g2 _ (by omega)];exact hK.b
  have m1:K2[H.length+1]? = some (.grow 4 (xs.map fdA)):=by rw [g2 _ (by omega)];exact hK.g
  have m3:K3[H.length+2]? = some (.box (.gsl (H.length+1) xs.length)):=by rw [g3 _ (by omega)];exact m4
  have m6:K4[H.length+6]? = some (.loop { rA H e with state:=.busy }):=by rw [g4 _ (by omega),g3 _ (by omega)];exact s2
  have hadd:zBo (K2++[.box (fdA f)]) 4 true (.gsl (H.length+1) xs.length) [fdA f]=some (.gsl (H.length+1) (xs.length+1),K3++[.box (fdA f)]):=by
   have hb:xs.length+1≤maxLenA:=by simp only [maxLenA];omega
   have e0:zB9 4 true [fdA f]=true:=rfl
   have e9:ltL 0 [fdA f]=true:=rfl
   simp only [zBo]
   rw [List.getElem?_append_left (by omega),m1]
   simp only [e0,e9,List.length_map,List.length_cons,List.length_nil,Nat.zero_add,hb,and_self,decide_true,Bool.and_self,if_true]
   rw [List.set_append_left _ _ (by omega),← h3]
   simp
  have t1:(K5++[AO.box (fdA f)]).take K.length=K5:=by rw [← l5];exact List.take_left' rfl
  have u1:(K++[AO.box (fdA f)])[K.length]? = some (.box (fdA f)):=by simp
  have u2:(K2++[AO.box (fdA f)])[K.length]? = some (.box (fdA f)):=by rw [← l2];simp
  have e12:H.length+1<K2.length:=by omega
  have e22:H.length+2<K2.length:=by omega
  have e23:H.length+2<K3.length:=by omega
  have e64:H.length+6<K4.length:=by omega
  obtain ⟨lo,hi,many⟩:=l
  obtain ⟨fm,fl,fe,fs⟩:=f
  simp only [zAq,zAo,List.nil_append,List.append_nil,List.cons_append,List.getElem?_cons_zero,List.getElem?_cons_succ,Tryz.f75,rA,fdA] at h2 h5 k6 m6 hadd t1 u1 u2 s5
  simp only [lgA,fdA]
  simp -implicitDefEqProofs (maxSteps:=1000000) (disch:=first|rfl|omega|assumption) only [go_sem,ltT,ltF,leT,callV_yield,zA6 e6,k6,he,h2,set_lt e6,zA6 e22,m4,u1,u2,hadd,zA6 e23,m3,set_lt e23,h4,zA6 e64,m6,set_lt e64,h5,t1]
  done
theorem AllAt.set {p:Nat} {w:Int×Int} {r:ALoop} {xs:List Fd} {K:Heap} (h:AllAt H p w r xs K) {i:Nat} (hi:H.length+7≤i) (x:AO):AllAt H p w r xs (K.set i x):=by
 have e:∀ j,j<H.length+7→(K.set i x)[j]? = K[j]? := fun j hj=>List.getElem?_set_ne (by omega)
 refine ⟨h.old.set (by omega) x,by rw [List.length_set];exact h.len,?_,?_,?_,?_,?_,?_,?_⟩<;>rw [e _ (by omega)]
 ·exact h.z
 ·exact h.g
 ·exact h.b
 ·exact h.s
 ·exact h.a
 ·exact h.d
 ·exact h.l
theorem AllAt.app {p:Nat} {w:Int×Int} {r:ALoop} {xs:List Fd} {K:Heap} (h:AllAt H p w r xs K) (G:Heap):AllAt H p w r xs (K++G):=by
 have hl:=h.len
 have e:∀ j,j<H.length+7→(K++G)[j]? = K[j]? := fun j hj=>List.getElem?_append_left (by omega)
 refine ⟨h.old.app G,by rw [List.length_append];omega,?_,?_,?_,?_,?_,?_,?_⟩<;>rw [e _ (by omega)]
 ·exact h.z
 ·exact h.g
 ·exact h.b
 ·exact h.s
 ·exact h.a
 ·exact h.d
 ·exact h.l
theorem AllAt.cut {p:Nat} {w:Int×Int} {r:ALoop} {xs:List Fd} {K:Heap} (h:AllAt H p w r xs K):AllAt H p w r xs (K.take (H.length+7)):=by
 have hl:=h.len
 have e:∀ j,j<H.length+7→(K.take (H.length+7))[j]? = K[j]? := fun j hj=>by rw [List.getElem?_take,if_pos hj]
 refine ⟨?_,by rw [List.length_take];omega,?_,?_,?_,?_,?_,?_,?_⟩
 ·have:=h.old
  unfold Kp at *
  rw [List.take_take,Nat.min_eq_left (by omega),this]
 all_goals rw [e _ (by omega)]
 ·exact h.z
 ·exact h.g
 ·exact h.b
 ·exact h.s
 ·exact h.a
 ·exact h.d
 ·exact h.l
theorem AllAt.kp {p:Nat} {w:Int×Int} {r:ALoop} {xs:List Fd} {K K':Heap} (h:AllAt H p w r xs K) (hl:K.length=H.length+7) (h':Kp K K'):AllAt H p w r xs K':=by
 obtain ⟨G,rfl⟩:=h'.ex
 exact h.app G
def hearL (M:List (Lg×Fd)) (w:Int×Int) (seen:List Nat):List Fd:=((seen.map fun i=>M.getD i (⟨0,0,0⟩,⟨0,0,0,0⟩)).filter fun p=>isB w p.1).map (·.2)
theorem hearL_len (M:List (Lg×Fd)) (w:Int×Int) (seen:List Nat):(hearL M w seen).length≤seen.length:=by
 simp only [hearL,List.length_map]
 exact Nat.le_trans (List.length_filter_le _ _) (by simp)
theorem th_loop {p:Nat} {w:Int×Int} {e:Env} (he:e.get 6=.ptr (H.length+2) 0) {m d it:Nat} {M:List (Lg×Fd)} (hMl:M.length≤300) {Q:Done→Prop}
  (hQ:∀ (K:Heap) (seen:List Nat),AllAt H p w (rA H e) (hearL M w seen) K→(d::seen).Perm (List.range M.length)→Q ⟨.ret (.tup []),K,none⟩) (h1:H.length+7≤it) (h2:H.length+7≤m) (n1:it≠m) :
  ∀ (q:Nat) (seen rest:List Nat),rest.length=q→Met M.length (d::seen) rest→∀ K:Heap,AllAt H p w (rA H e) (hearL M w seen) K→K[it]? = some (.iter m M.length seen)→K[m]? = some (.dmap 168 (enM M) d) →
   ∀ E:Env,E.get 0=.func (.yield (H.length+6)) [] []→E.get 2=.ptr (H.length+4) 0→E.get 8=.ptr it 0 →
   KW cfg0 zA0 (.exec ⟨88,none,false,H.length+7⟩ (zA7 Tryz.f88 1) ⟨E,[],K,none⟩) Q:=by
 have hk':True:=trivial
 intro q
 induction q with
 | zero =>
  intro seen rest hq hmet K hK k1 k2 E g0 g2 g8
  simp only [zAb,zA4,zA7,zAa,zA3,↓reduceIte,Option.some.injEq,Nat.reduceEqDiff,reduceCtorEq,Tryz.f88]
  rw [kw_inLoop]
  simp -implicitDefEqProofs (maxSteps:=1000000) (disch:=first|rfl|omega|assumption) only [go_sem,g0,g2,g8,ltT,ltF,leT,hk']
  refine kw_nxD (e:=E) (df:=[]) (H:=K) (pn:=none) (n:=M.length) (m:=m) (seen:=seen) (li:=it) (kt:=168) (es:=enM M) (dd:=d) (by simp -implicitDefEqProofs (maxSteps:=1000000) (disch:=first|rfl|omega|assumption) only [go_sem,g0,g2,g8,ltT,ltF,leT,hk']) (by simp -implicitDefEqProofs (maxSteps:=1000000) (disch:=first|rfl|omega|assumption) only [go_sem,g0,g2,g8,ltT,ltF,leT,hk']) k1 k2 (enM_len M) ?_ ?_
  ·intro hall
   have hre:=hmet.fin (fun i hi=>by
    by_cases e:i=d
    ·simp [e]
    ·exact List.mem_cons_of_mem _ (hall i hi e))
   rw [hre] at hmet
   have hset:K.set it (.iter m M.length seen)=K:=by
    obtain ⟨hl1,hl2⟩:=List.getElem?_eq_some_iff.1 k1
    rw [← hl2]
    exact List.set_getElem_self hl1
   rw [hset]
   have key:=hQ K seen hK hmet.done
   simp -implicitDefEqProofs (maxSteps:=1000000) (disch:=first|rfl|omega|assumption) only [go_sem,g0,g2,g8,ltT,ltF,leT,hk']
   exact key
  ·intro i hi hs hne
   obtain ⟨rest',h1,h2⟩:=hmet.go hi (by simp only [List.mem_cons,not_or];exact ⟨hne,hs⟩)
   omega
 | succ q ih =>
  intro seen rest hq hmet K hK k1 k2 E g0 g2 g8
  simp only [zAb,zA4,zA7,zAa,zA3,↓reduceIte,Option.some.injEq,Nat.reduceEqDiff,reduceCtorEq,Tryz.f88]
  rw [kw_inLoop]
  simp -implicitDefEqProofs (maxSteps:=1000000) (disch:=first|rfl|omega|assumption) only [go_sem,g0,g2,g8,ltT,ltF,leT,hk']
  refine kw_nxD (e:=E) (df:=[]) (H:=K) (pn:=none) (n:=M.length) (m:=m) (seen:=seen) (li:=it) (kt:=168) (es:=enM M) (dd:=d) (by simp -implicitDefEqProofs (maxSteps:=1000000) (disch:=first|rfl|omega|assumption) only [go_sem,g0,g2,g8,ltT,ltF,leT,hk']) (by simp -implicitDefEqProofs (maxSteps:=1000000) (disch:=first|rfl|omega|assumption) only [go_sem,g0,g2,g8,ltT,ltF,leT,hk']) k1 k2 (enM_len M) ?_ ?_
  ·intro hall
   have hre:=hmet.fin (fun i hi=>by
    by_cases e:i=d
    ·simp [e]
    ·exact List.mem_cons_of_mem _ (hall i hi e))
   rw [hre] at hq
   simp at hq
  ·intro i hi hns hne
   obtain ⟨rest',hm1,hm2⟩:=hmet.go hi (by simp only [List.mem_cons,not_or];exact ⟨hne,hns⟩)
   have hsl:seen.length≤300:=by
    have:=hmet.length_eq
    simp only [List.length_append,List.length_cons,List.length_range] at this
    omega
   have hxl:=hearL_len M w seen
   have hat:=enM_at hi
   have hat2:=enM_at2 hi
   have hlm:=enM_len M
   have key:=ih (seen++[i]) rest' (by omega) hm1
   have hh:hearL M w (seen++[i])=hearL M w seen++(if isB w (M.getD i (⟨0,0,0⟩,⟨0,0,0,0⟩)).1 then [(M.getD i (⟨0,0,0⟩,⟨0,0,0,0⟩)).2] else []):=by
    simp only [hearL,List.map_append,List.filter_append,List.map_cons,List.map_nil,List.filter_cons,List.filter_nil]
    split<;>rfl
   rw [hh] at key
   clear hh
   obtain ⟨⟨l,f⟩,hp⟩:∃ p,M.getD i (⟨0,0,0⟩,⟨0,0,0,0⟩)=p:=⟨_,rfl⟩
   rw [hp] at hat hat2 key
   simp only at hat hat2 key
   rw [hat]
   have il:=(List.getElem?_eq_some_iff.1 k1).1
   have q1:(K.set it (.iter m M.length (seen++[i])))[it]? = some (.iter m M.length (seen++[i])):=by rw [List.getElem?_set_self il]
   have q2:(K.set it (.iter m M.length (seen++[i])))[m]? = some (.dmap 168 (enM M) d):=by rw [List.getElem?_set_ne n1];exact k2
   have hK1:=hK.set h1 (.iter m M.length (seen++[i]))
   generalize K.set it (.iter m M.length (seen++[i]))=K1 at q1 q2 hK1 ⊢
   have hK2:=hK1.app [.box (lgA l),.box (fdA f)]
   have p1:=(List.getElem?_eq_some_iff.1 q1).1
   have p2:=(List.getElem?_eq_some_iff.1 q2).1
   have hlen:=hK1.len
   have p4:H.length+4<K1.length:=by omega
   have a4:=hK1.a
   have his:=fun G:Heap=>st_is (H:=G) (l:=l) (w:=w)
   have r1:(K1++[.box (lgA l),.box (fdA f)])[it]? = some (.iter m M.length (seen++[i])):=by rw [List.getElem?_append_left p1];exact q1
   have r2:(K1++[.box (lgA l),.box (fdA f)])[m]? = some (.dmap 168 (enM M) d):=by rw [List.getElem?_append_left p2];exact q2
   have hisb:(decide (w.1≤l.lo)&&decide (l.hi≤w.2))=isB w l:=rfl
   rw [hisb] at his
   cases hb:isB w l with
   | false =>
    rw [hb] at his key
    simp only [Bool.false_eq_true,if_false,List.append_nil] at key
    have key2:=key _ hK2 r1 r2
    clear key ih hQ
    obtain ⟨lo,hi',many⟩:=l
    obtain ⟨fm,fl,fe,fs⟩:=f
    simp only [lgA,fdA,spA] at *
    simp -implicitDefEqProofs (maxSteps:=1000000) (disch:=first|rfl|omega|assumption) only [go_sem,g0,g2,g8,ltT,ltF,leT,hk',q1,q2,hlm,hat2,ne_eq,hne,not_false_eq_true,zA6 p1,zA6 p2,zA6 p4,a4,his]
    exact key2 _ (by exact g0) (by exact g2) (by exact g8)
   | true =>
    rw [hb] at his key
    simp only [if_true] at key
    obtain ⟨K',c1,c2,c3,c4⟩:=all_hear he hK2 l f (by omega) (H.length+7)
    have key2:=key K' c2 (by rw [c4 _ h1];exact r1) (by rw [c4 _ h2];exact r2)
    clear key ih hQ hK2
    obtain ⟨lo,hi',many⟩:=l
    obtain ⟨fm,fl,fe,fs⟩:=f
    simp only [lgA,fdA,spA] at *
    simp -implicitDefEqProofs (maxSteps:=1000000) (disch:=first|rfl|omega|assumption) only [go_sem,g0,g2,g8,ltT,ltF,leT,hk',q1,q2,hlm,hat2,ne_eq,hne,not_false_eq_true,zA6 p1,zA6 p2,zA6 p4,a4,his,c1]
    exact key2 _ (by exact g0) (by exact g2) (by exact g8)
theorem lgN_none {bs:List (Int×Int)} {film:Int×Int} (x:Nat):∀ j,lgN bs film j x=zLg→∀ i,i<j→x.testBit i=false
 | 0,_,i,hi=>by omega
 | j+1,h,i,hi=>by
  simp only [lgN] at h
  split at h
  ·exfalso
   have:=congrArg Lg.many h
   simp only [Lg.wit,zLg] at this
   omega
  ·rename_i hb
   rcases Nat.lt_or_ge i j with hij | hij
   ·exact lgN_none x j h i hij
   ·have:i=j:=by omega
    subst this
    simpa using hb
theorem lgN_zLg {bs:List (Int×Int)} {film:Int×Int} {x n:Nat} (hx:x<2^n) (h:lgN bs film n x=zLg):x=0:=by
 refine Nat.eq_of_testBit_eq fun i=>?_
 rw [Nat.zero_testBit]
 rcases Nat.lt_or_ge i n with hi | hi
 ·exact lgN_none x n h i hi
 ·exact Nat.testBit_lt_two_pow (Nat.lt_of_lt_of_le hx (Nat.pow_le_pow_right (by omega) hi))
theorem joinL_flat {α:Type} {G:α→List Fd}:∀ (L:List α),(∀ a∈L,G a≠[])→joinL (L.map fun a=>joinL (G a))=joinL (L.flatMap G)
 | [],_=>rfl
 | [a],h=>by
  simp only [List.map_cons,List.map_nil,List.flatMap_cons,List.flatMap_nil,List.append_nil]
  rfl
 | a::b::r,h=>by
  have ih:=joinL_flat (b::r) (fun c hc=>h c (by simp [hc]))
  have hne:(b::r).flatMap G≠[]:=by
   have:=h b (by simp)
   simp [this]
  have e1:joinL ((a::b::r).map fun a=>joinL (G a))=(joinL (G a)).join (joinL ((b::r).map fun a=>joinL (G a))):=zB7 (by simp)
  have e2:joinL ((a::b::r).flatMap G)=(joinL (G a)).join (joinL ((b::r).flatMap G)):=by
   rw [List.flatMap_cons]
   exact joinL_append (h a (by simp)) hne
  rw [e1,e2,ih]
def sureL (bs:List (Int×Int)) (film w:Int×Int):List Nat:=(List.range (2^bs.length)).filter fun x=>decide (x≠0)&&isB w (lgN bs film bs.length x)
theorem hear_sure {bs:List (Int×Int)} {film w:Int×Int} {M:List (Lg×Fd)} {X:List Nat} (hX:X.Perm (List.range (2^bs.length))) (hR:Rp M X (lgN bs film bs.length)) {d:Nat} {seen:List Nat} (hp:(d::seen).Perm (List.range M.length))
  (hd:(M.getD d (⟨0,0,0⟩,⟨0,0,0,0⟩)).1=zLg):joinL (hearL M w seen)=joinL ((sureL bs film w).map fdx)∧(hearL M w seen=[]↔sureL bs film w=[]):=by
 let dd:Lg×Fd:=(⟨0,0,0⟩,⟨0,0,0,0⟩)
 obtain ⟨S,hS⟩:∃ S,(seen.map fun i=>M.getD i dd).filter (fun p=>isB w p.1)=S:=⟨_,rfl⟩
 have hh:hearL M w seen=S.map (·.2):=by rw [← hS];rfl
 have hall:((d::seen).map fun i=>M.getD i dd).Perm M:=by
  refine (hp.map _).trans ?_
  have:(List.range M.length).map (fun i=>M.getD i dd)=M:=by
   apply List.ext_getElem
   ·simp
   ·intro i h1 h2
    simp [h2]
  rw [this]
 rw [List.map_cons] at hall
 have hmem:∀ p∈S,p∈M∧isB w p.1=true:=fun p hp'=>by
  rw [← hS] at hp'
  obtain ⟨h1,h2⟩:=List.mem_filter.1 hp'
  exact ⟨hall.mem_iff.1 (List.mem_cons_of_mem _ h1),h2⟩
 have hnd:((M.getD d dd).1::(seen.map fun i=>M.getD i dd).map (·.1)).Nodup:=by
  have:=(hall.map (·.1)).nodup_iff.2 hR.nd
  simpa using this
 rw [List.nodup_cons] at hnd
 have hz:∀ p∈S,p.1≠zLg:=fun p hp' e=>by
  rw [← hS] at hp'
  refine hnd.1 ?_
  have hd':(M.getD d dd).1=zLg:=hd
  rw [hd',← e]
  exact List.mem_map_of_mem (List.mem_filter.1 hp').1
 have hSn:(S.map (·.1)).Nodup:=by
  rw [← hS]
  exact hnd.2.sublist ((List.filter_sublist).map _)
 let X':=X.filter fun x=>decide (x≠0)&&isB w (lgN bs film bs.length x)
 have hX':X'.Perm (sureL bs film w):=hX.filter _
 have hcov:∀ x∈X',lgN bs film bs.length x∈S.map (·.1):=fun x hx=>by
  obtain ⟨h1,h2⟩:=List.mem_filter.1 hx
  simp only [ne_eq,decide_not,Bool.and_eq_true,Bool.not_eq_true',decide_eq_false_iff_not] at h2
  obtain ⟨p,hpM,hpe⟩:=List.mem_map.1 (hR.cov x h1)
  have hxl:=List.mem_range.1 (hX.mem_iff.1 h1)
  refine List.mem_map.2 ⟨p,?_,hpe⟩
  rw [← hS]
  refine List.mem_filter.2 ⟨?_,by rw [hpe];exact h2.2⟩
  rcases List.mem_cons.1 (hall.mem_iff.2 hpM) with e | e
  ·exfalso
   refine h2.1 (lgN_zLg (bs:=bs) (film:=film) hxl ?_)
   rw [← hpe,e]
   exact hd
  ·exact e
 have hgr:∀ p∈S,X'.filter (fun x=>decide (lgN bs film bs.length x=p.1))=X.filter (fun x=>decide (lgN bs film bs.length x=p.1)):=fun p hpS=>by
  rw [List.filter_filter]
  refine List.filter_congr fun x hx=>?_
  by_cases e:lgN bs film bs.length x=p.1
  ·have hx0:x≠0:=by
    rintro rfl
    rw [lgN_zero] at e
    exact hz p hpS e.symm
   simp [e,hx0,(hmem p hpS).2]
  ·simp [e]
 have hflat:(S.flatMap fun p=>X'.filter (fun x=>decide (lgN bs film bs.length x=p.1))).Perm X':=by
  have:=keys_perm (S.map (·.1)) X' hSn hcov
  rwa [List.flatMap_map] at this
 have hv:S.map (·.2)=S.map fun p=>joinL ((X'.filter (fun x=>decide (lgN bs film bs.length x=p.1))).map fdx):=List.map_congr_left fun p hpS=>by
  rw [hgr p hpS]
  exact hR.val p (hmem p hpS).1
 have hne:∀ p∈S,(X'.filter (fun x=>decide (lgN bs film bs.length x=p.1))).map fdx≠[]:=fun p hpS=>by
  rw [hgr p hpS]
  have:=hR.ne p (hmem p hpS).1
  simpa using this
 constructor
 ·rw [hh,hv,joinL_flat S hne]
  refine joinL_perm ?_
  have:=(hflat.trans hX').map fdx
  rwa [List.map_flatMap] at this
 ·rw [hh]
  constructor
  ·intro h
   have hS0:S=[]:=by simpa using h
   rw [hS0] at hflat
   have h1:=hflat.symm.eq_nil
   have h2:=hX'
   rw [h1] at h2
   exact h2.symm.eq_nil
  ·intro h
   rw [h] at hX'
   have h1:=hX'.eq_nil
   cases hS1:S with
   | nil=>rfl
   | cons p r =>
    exfalso
    have:=hne p (by rw [hS1];simp)
    rw [h1] at this
    simp at this
end Go.Ab
