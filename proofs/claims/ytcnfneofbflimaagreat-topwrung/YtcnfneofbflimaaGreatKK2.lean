/- Stacks: each that is surely inside is heard. -/
import Derived.Test.YtcnfneofbflimaaGreatKK1
namespace Go.Ab
open Go.Proofs
set_option linter.unusedSimpArgs false
set_option linter.unusedVariables false
set_option maxRecDepth 100000
set_option maxHeartbeats 2000000
variable {H:Heap}
theorem st_that (p:Nat) (T:TypeId) (a:AV) (H:Heap):zA9 cfg0 zA2 false 64 [.ptr p 0,.iface T a] H none=some ⟨.ret (.func (.func 85) [] [.ptr H.length 0,.ptr (H.length+1) 0]),H++[.box (.ptr p 0),.box (.iface T a)],none⟩:=by
 refine (zA1 fn64 rfl (by simp [Tryz.f64])).trans ?_
 simp -implicitDefEqProofs (maxSteps:=1000000) (disch:=first|rfl|omega|assumption) only [go_sem,ltT,ltF,leT]
 done
def isB (w:Int×Int) (l:Lg):Bool:=decide (w.1≤l.lo)&&decide (l.hi≤w.2)
structure AllAt (H:Heap) (p:Nat) (w:Int×Int) (r:ALoop) (xs:List Fd) (K:Heap):Prop where
 old:Kp H K
 len:H.length+7≤K.length
 z:K[H.length]? = some (.box (.agg [I 0,U 0,U 0,U 0]))
 g:K[H.length+1]? = some (.grow 4 (xs.map fdA))
 b:K[H.length+2]? = some (.box (.gsl (H.length+1) xs.length))
 s:K[H.length+3]? = some (.box (.ptr p 0))
 a:K[H.length+4]? = some (.box (.iface 81 (spA w)))
 d:K[H.length+5]? = some .dfr
 l:K[H.length+6]? = some (.loop r)
noncomputable abbrev rA (H:Heap) (e:Env):ALoop:=zAn Tryz.f28 28 0 e (H.length+5)
theorem all_hear {p:Nat} {w:Int×Int} {e:Env} (he:e.get 6=.ptr (H.length+2) 0) {xs:List Fd} {K:Heap} (hK:AllAt H p w (rA H e) xs K) (l:Lg) (f:Fd) (hx:xs.length≤300) (b:Nat) :
  ∃ K',zB1 cfg0 zA2 b false (.yield (H.length+6)) [lgA l,fdA f] [] K none=some ⟨.ret (.bool true),K',none⟩∧AllAt H p w (rA H e) (xs++[f]) K'∧K'.length=K.length∧∀ i,H.length+7≤i→K'[i]? = K[i]? := by
 have hl:=hK.len
 have e1:H.length+1<K.length:=by omega
 have e2:H.length+2<K.length:=by omega
 have e6:H.length+6<K.length:=by omega
 obtain ⟨K2,h2⟩:∃ K2,K.set (H.length+6) (.loop { rA H e with state:=.busy })=K2:=⟨_,rfl⟩
 have l2:K2.length=K.length:=by rw [← h2,List.length_set]
 have g2:∀ i,i≠H.length+6→K2[i]? = K[i]? := fun i hi=>by rw [← h2,List.getElem?_set_ne (Ne.symm hi)]
 have s2:K2[H.length+6]? = some (.loop { rA H e with state:=.busy }):=by rw [← h2,List.getElem?_set_self e6]
 obtain ⟨K3,h3⟩:∃ K3,K2.set (H.length+1) (.grow 4 ((xs++[f]).map fdA))=K3:=⟨_,rfl⟩
 have l3:K3.length=K.length:=by rw [← h3,List.length_set,l2]
 have g3:∀ i,i≠H.length+1→K3[i]? = K2[i]? := fun i hi=>by rw [← h3,List.getElem?_set_ne (Ne.symm hi)]
 have s3:K3[H.length+1]? = some (.grow 4 ((xs++[f]).map fdA)):=by rw [← h3,List.getElem?_set_self (by omega)]
 obtain ⟨K4,h4⟩:∃ K4,K3.set (H.length+2) (.box (.gsl (H.length+1) (xs.length+1)))=K4:=⟨_,rfl⟩
 have l4:K4.length=K.length:=by rw [← h4,List.length_set,l3]
 have g4:∀ i,i≠H.length+2→K4[i]? = K3[i]? := fun i hi=>by rw [← h4,List.getElem?_set_ne (Ne.symm hi)]
 have s4:K4[H.length+2]? = some (.box (.gsl (H.length+1) (xs.length+1))):=by rw [← h4,List.getElem?_set_self (by omega)]
 obtain ⟨K5,h5⟩:∃ K5,K4.set (H.length+6) (.loop (rA H e))=K5:=⟨_,rfl⟩
 have l5:K5.length=K.length:=by rw [← h5,List.length_set,l4]
 have g5:∀ i,i≠H.length+6→K5[i]? = K4[i]? := fun i hi=>by rw [← h5,List.getElem?_set_ne (Ne.symm hi)]
 have s5:K5[H.length+6]? = some (.loop (rA H e)):=by rw [← h5,List.getElem?_set_self (by omega)]
 have all:∀ i,i≠H.length+1→i≠H.length+2→i≠H.length+6→K5[i]? = K[i]? := fun i a1 a2 a6=>by rw [g5 i a6,g4 i a2,g3 i a1,g2 i a6]
 have kp:Kp H K5:=by
  rw [← h5,← h4,← h3,← h2]
  exact (((hK.old.set (by omega) _).set (by omega) _).set (by omega) _).set (by omega) _
 refine ⟨K5,?_,⟨kp,by omega,?_,?_,?_,?_,?_,?_,s5⟩,l5,fun i hi=>all i (by omega) (by omega) (by omega)⟩
 rotate_left
 ·rw [all _ (by omega) (by omega) (by omega)];exact hK.z
 ·rw [g5 _ (by omega),g4 _ (by omega)];exact s3
 ·rw [g5 _ (by omega),s4];simp
 ·rw [all _ (by omega) (by omega) (by omega)];exact hK.s
 ·rw [all _ (by omega) (by omega) (by omega)];exact hK.a
 ·rw [all _ (by omega) (by omega) (by omega)];exact hK.d
 ·have k6:=hK.l
  have m4:K2[H.length+2]? = some (.box (.gsl (H.length+1) xs.length)):=by rw [g2 _ (by omega)];exact hK.b
  have m1:K2[H.length+1]? = some (.grow 4 (xs.map fdA)):=by rw [g2 _ (by omega)];exact hK.g
  have m3:K3[H.length+2]? = some (.box (.gsl (H.length+1) xs.length)):=by rw [g3 _ (by omega)];exact m4
  have m6:K4[H.length+6]? = some (.loop { rA H e with state:=.busy }):=by rw [g4 _ (by omega),g3 _ (by omega)];exact s2
  have hadd:addElem (K2++[.box (fdA f)]) 4 true (.gsl (H.length+1) xs.length) [fdA f]=some (.gsl (H.length+1) (xs.length+1),K3++[.box (fdA f)]):=by
   have hb:xs.length+1≤maxLenA:=by simp only [maxLenA];omega
   have e0:zBq 4 true [fdA f]=true:=rfl
   have e9:ltL 0 [fdA f]=true:=rfl
   simp only [addElem]
   rw [List.getElem?_append_left (by omega),m1]
   simp only [e0,e9,List.length_map,List.length_cons,List.length_nil,Nat.zero_add,hb,and_self,decide_true,Bool.and_self,if_true]
   rw [List.set_append_left _ _ (by omega),← h3]
   simp
  have t1:(K5++[AO.box (fdA f)]).take K.length=K5:=by rw [← l5];exact List.take_left' rfl
  have u1:(K++[AO.box (fdA f)])[K.length]? = some (.box (fdA f)):=by simp
  have u2:(K2++[AO.box (fdA f)])[K.length]? = some (.box (fdA f)):=by rw [← l2];simp
  have e12:H.length+1<K2.length:=by omega
  have e22:H.length+2<K2.length:=by omega
  have e23:H.length+2<K3.length:=by omega
  have e64:H.length+6<K4.length:=by omega
  obtain ⟨lo,hi,many⟩:=l
  obtain ⟨fm,fl,fe,fs⟩:=f
  simp only [zAn,zAm,List.nil_append,List.append_nil,List.cons_append,List.getElem?_cons_zero,List.getElem?_cons_succ,Tryz.f28,rA,fdA] at h2 h5 k6 m6 hadd t1 u1 u2 s5
  simp only [lgA,fdA]
  simp -implicitDefEqProofs (maxSteps:=1000000) (disch:=first|rfl|omega|assumption) only [go_sem,ltT,ltF,leT,callV_yield,zAt e6,k6,he,h2,set_lt e6,zAt e22,m4,u1,u2,hadd,zAt e23,m3,set_lt e23,h4,zAt e64,m6,set_lt e64,h5,t1]
  done
theorem AllAt.set {p:Nat} {w:Int×Int} {r:ALoop} {xs:List Fd} {K:Heap} (h:AllAt H p w r xs K) {i:Nat} (hi:H.length+7≤i) (x:AO):AllAt H p w r xs (K.set i x):=by
 have e:∀ j,j<H.length+7→(K.set i x)[j]? = K[j]? := fun j hj=>List.getElem?_set_ne (by omega)
 refine ⟨h.old.set (by omega) x,by rw [List.length_set];exact h.len,?_,?_,?_,?_,?_,?_,?_⟩<;>rw [e _ (by omega)]
 ·exact h.z
 ·exact h.g
 ·exact h.b
 ·exact h.s
 ·exact h.a
 ·exact h.d
 ·exact h.l
theorem AllAt.app {p:Nat} {w:Int×Int} {r:ALoop} {xs:List Fd} {K:Heap} (h:AllAt H p w r xs K) (G:Heap):AllAt H p w r xs (K++G):=by
 have hl:=h.len
 have e:∀ j,j<H.length+7→(K++G)[j]? = K[j]? := fun j hj=>List.getElem?_append_left (by omega)
 refine ⟨h.old.app G,by rw [List.length_append];omega,?_,?_,?_,?_,?_,?_,?_⟩<;>rw [e _ (by omega)]
 ·exact h.z
 ·exact h.g
 ·exact h.b
 ·exact h.s
 ·exact h.a
 ·exact h.d
 ·exact h.l
theorem AllAt.cut {p:Nat} {w:Int×Int} {r:ALoop} {xs:List Fd} {K:Heap} (h:AllAt H p w r xs K):AllAt H p w r xs (K.take (H.length+7)):=by
 have hl:=h.len
 have e:∀ j,j<H.length+7→(K.take (H.length+7))[j]? = K[j]? := fun j hj=>by rw [List.getElem?_take,if_pos hj]
 refine ⟨?_,by rw [List.length_take];omega,?_,?_,?_,?_,?_,?_,?_⟩
 ·have:=h.old
  unfold Kp at *
  rw [List.take_take,Nat.min_eq_left (by omega),this]
 all_goals rw [e _ (by omega)]
 ·exact h.z
 ·exact h.g
 ·exact h.b
 ·exact h.s
 ·exact h.a
 ·exact h.d
 ·exact h.l
theorem AllAt.kp {p:Nat} {w:Int×Int} {r:ALoop} {xs:List Fd} {K K':Heap} (h:AllAt H p w r xs K) (hl:K.length=H.length+7) (h':Kp K K'):AllAt H p w r xs K':=by
 obtain ⟨G,rfl⟩:=h'.ex
 exact h.app G
def hearL (M:List (Lg×Fd)) (w:Int×Int) (seen:List Nat):List Fd:=((seen.map fun i=>M.getD i (⟨0,0,0⟩,⟨0,0,0,0⟩)).filter fun p=>isB w p.1).map (·.2)
theorem hearL_len (M:List (Lg×Fd)) (w:Int×Int) (seen:List Nat):(hearL M w seen).length≤seen.length:=by
 simp only [hearL,List.length_map]
 exact Nat.le_trans (List.length_filter_le _ _) (by simp)
theorem th_loop {p:Nat} {w:Int×Int} {e:Env} (he:e.get 6=.ptr (H.length+2) 0) {m d it:Nat} {M:List (Lg×Fd)} (hMl:M.length≤300) {Q:Done→Prop}
  (hQ:∀ (K:Heap) (seen:List Nat),AllAt H p w (rA H e) (hearL M w seen) K→(d::seen).Perm (List.range M.length)→Q ⟨.ret (.tup []),K,none⟩) (h1:H.length+7≤it) (h2:H.length+7≤m) (n1:it≠m) :
  ∀ (q:Nat) (seen rest:List Nat),rest.length=q→Met M.length (d::seen) rest→∀ K:Heap,AllAt H p w (rA H e) (hearL M w seen) K→K[it]? = some (.iter m M.length seen)→K[m]? = some (.dmap 84 (enM M) d) →
   ∀ E:Env,E.get 0=.func (.yield (H.length+6)) [] []→E.get 2=.ptr (H.length+4) 0→E.get 8=.ptr it 0 →
   KW cfg0 zA2 (.exec ⟨85,none,false,H.length+7⟩ (zA5 Tryz.f85 1) ⟨E,[],K,none⟩) Q:=by
 have hk':True:=trivial
 intro q
 induction q with
 | zero =>
  intro seen rest hq hmet K hK k1 k2 E g0 g2 g8
  simp only [zA6,zA4,zA5,zA7,zA3,↓reduceIte,Option.some.injEq,Nat.reduceEqDiff,reduceCtorEq,Tryz.f85]
  rw [kw_inLoop]
  simp -implicitDefEqProofs (maxSteps:=1000000) (disch:=first|rfl|omega|assumption) only [go_sem,g0,g2,g8,ltT,ltF,leT,hk']
  refine kw_nxD (e:=E) (df:=[]) (H:=K) (pn:=none) (n:=M.length) (m:=m) (seen:=seen) (li:=it) (kt:=84) (es:=enM M) (dd:=d) (by simp -implicitDefEqProofs (maxSteps:=1000000) (disch:=first|rfl|omega|assumption) only [go_sem,g0,g2,g8,ltT,ltF,leT,hk']) (by simp -implicitDefEqProofs (maxSteps:=1000000) (disch:=first|rfl|omega|assumption) only [go_sem,g0,g2,g8,ltT,ltF,leT,hk']) k1 k2 (enM_len M) ?_ ?_
  ·intro hall
   have hre:=hmet.fin (fun i hi=>by
    by_cases e:i=d
    ·simp [e]
    ·exact List.mem_cons_of_mem _ (hall i hi e))
   rw [hre] at hmet
   have hset:K.set it (.iter m M.length seen)=K:=by
    obtain ⟨hl1,hl2⟩:=List.getElem?_eq_some_iff.1 k1
    rw [← hl2]
    exact List.set_getElem_self hl1
   rw [hset]
   have key:=hQ K seen hK hmet.done
   simp -implicitDefEqProofs (maxSteps:=1000000) (disch:=first|rfl|omega|assumption) only [go_sem,g0,g2,g8,ltT,ltF,leT,hk']
   exact key
  ·intro i hi hs hne
   obtain ⟨rest',h1,h2⟩:=hmet.go hi (by simp only [List.mem_cons,not_or];exact ⟨hne,hs⟩)
   omega
 | succ q ih =>
  intro seen rest hq hmet K hK k1 k2 E g0 g2 g8
  simp only [zA6,zA4,zA5,zA7,zA3,↓reduceIte,Option.some.injEq,Nat.reduceEqDiff,reduceCtorEq,Tryz.f85]
  rw [kw_inLoop]
  simp -implicitDefEqProofs (maxSteps:=1000000) (disch:=first|rfl|omega|assumption) only [go_sem,g0,g2,g8,ltT,ltF,leT,hk']
  refine kw_nxD (e:=E) (df:=[]) (H:=K) (pn:=none) (n:=M.length) (m:=m) (seen:=seen) (li:=it) (kt:=84) (es:=enM M) (dd:=d) (by simp -implicitDefEqProofs (maxSteps:=1000000) (disch:=first|rfl|omega|assumption) only [go_sem,g0,g2,g8,ltT,ltF,leT,hk']) (by simp -implicitDefEqProofs (maxSteps:=1000000) (disch:=first|rfl|omega|assumption) only [go_sem,g0,g2,g8,ltT,ltF,leT,hk']) k1 k2 (enM_len M) ?_ ?_
  ·intro hall
   have hre:=hmet.fin (fun i hi=>by
    by_cases e:i=d
    ·simp [e]
    ·exact List.mem_cons_of_mem _ (hall i hi e))
   rw [hre] at hq
   simp at hq
  ·intro i hi hns hne
   obtain ⟨rest',hm1,hm2⟩:=hmet.go hi (by simp only [List.mem_cons,not_or];exact ⟨hne,hns⟩)
   have hsl:seen.length≤300:=by
    have:=hmet.length_eq
    simp only [List.length_append,List.length_cons,List.length_range] at this
    omega
   have hxl:=hearL_len M w seen
   have hat:=enM_at hi
   have hat2:=enM_at2 hi
   have hlm:=enM_len M
   have key:=ih (seen++[i]) rest' (by omega) hm1
   have hh:hearL M w (seen++[i])=hearL M w seen++(if isB w (M.getD i (⟨0,0,0⟩,⟨0,0,0,0⟩)).1 then [(M.getD i (⟨0,0,0⟩,⟨0,0,0,0⟩)).2] else []):=by
    simp only [hearL,List.map_append,List.filter_append,List.map_cons,List.map_nil,List.filter_cons,List.filter_nil]
    split<;>rfl
   rw [hh] at key
   clear hh
   obtain ⟨⟨l,f⟩,hp⟩:∃ p,M.getD i (⟨0,0,0⟩,⟨0,0,0,0⟩)=p:=⟨_,rfl⟩
   rw [hp] at hat hat2 key
   simp only at hat hat2 key
   rw [hat]
   have il:=(List.getElem?_eq_some_iff.1 k1).1
   have q1:(K.set it (.iter m M.length (seen++[i])))[it]? = some (.iter m M.length (seen++[i])):=by rw [List.getElem?_set_self il]
   have q2:(K.set it (.iter m M.length (seen++[i])))[m]? = some (.dmap 84 (enM M) d):=by rw [List.getElem?_set_ne n1];exact k2
   have hK1:=hK.set h1 (.iter m M.length (seen++[i]))
   generalize K.set it (.iter m M.length (seen++[i]))=K1 at q1 q2 hK1 ⊢
   have hK2:=hK1.app [.box (lgA l),.box (fdA f)]
   have p1:=(List.getElem?_eq_some_iff.1 q1).1
   have p2:=(List.getElem?_eq_some_iff.1 q2).1
   have hlen:=hK1.len
   have p4:H.length+4<K1.length:=by omega
   have a4:=hK1.a
   have his:=fun G:Heap=>st_is (H:=G) (l:=l) (w:=w)
   have r1:(K1++[.box (lgA l),.box (fdA f)])[it]? = some (.iter m M.length (seen++[i])):=by rw [List.getElem?_append_left p1];exact q1
   have r2:(K1++[.box (lgA l),.box (fdA f)])[m]? = some (.dmap 84 (enM M) d):=by rw [List.getElem?_append_left p2];exact q2
   have hisb:(decide (w.1≤l.lo)&&decide (l.hi≤w.2))=isB w l:=rfl
   rw [hisb] at his
   cases hb:isB w l with
   | false =>
    rw [hb] at his key
    simp only [Bool.false_eq_true,if_false,List.append_nil] at key
    have key2:=key _ hK2 r1 r2
    clear key ih hQ
    obtain ⟨lo,hi',many⟩:=l
    obtain ⟨fm,fl,fe,fs⟩:=f
    simp only [lgA,fdA,spA] at *
    simp -implicitDefEqProofs (maxSteps:=1000000) (disch:=first|rfl|omega|assumption) only [go_sem,g0,g2,g8,ltT,ltF,leT,hk',q1,q2,hlm,hat2,ne_eq,hne,not_false_eq_true,zAt p1,zAt p2,zAt p4,a4,his]
    exact key2 _ (by exact g0) (by exact g2) (by exact g8)
   | true =>
    rw [hb] at his key
    simp only [if_true] at key
    obtain ⟨K',c1,c2,c3,c4⟩:=all_hear he hK2 l f (by omega) (H.length+7)
    have key2:=key K' c2 (by rw [c4 _ h1];exact r1) (by rw [c4 _ h2];exact r2)
    clear key ih hQ hK2
    obtain ⟨lo,hi',many⟩:=l
    obtain ⟨fm,fl,fe,fs⟩:=f
    simp only [lgA,fdA,spA] at *
    simp -implicitDefEqProofs (maxSteps:=1000000) (disch:=first|rfl|omega|assumption) only [go_sem,g0,g2,g8,ltT,ltF,leT,hk',q1,q2,hlm,hat2,ne_eq,hne,not_false_eq_true,zAt p1,zAt p2,zAt p4,a4,his,c1]
    exact key2 _ (by exact g0) (by exact g2) (by exact g8)
theorem lgN_none {bs:List (Int×Int)} {film:Int×Int} (x:Nat):∀ j,lgN bs film j x=zLg→∀ i,i<j→x.testBit i=false
 | 0,_,i,hi=>by omega
 | j+1,h,i,hi=>by
  simp only [lgN] at h
  split at h
  ·exfalso
   have:=congrArg Lg.many h
   simp only [Lg.wit,zLg] at this
   omega
  ·rename_i hb
   rcases Nat.lt_or_ge i j with hij | hij
   ·exact lgN_none x j h i hij
   ·have:i=j:=by omega
    subst this
    simpa using hb
theorem lgN_zLg {bs:List (Int×Int)} {film:Int×Int} {x n:Nat} (hx:x<2^n) (h:lgN bs film n x=zLg):x=0:=by
 refine Nat.eq_of_testBit_eq fun i=>?_
 rw [Nat.zero_testBit]
 rcases Nat.lt_or_ge i n with hi | hi
 ·exact lgN_none x n h i hi
 ·exact Nat.testBit_lt_two_pow (Nat.lt_of_lt_of_le hx (Nat.pow_le_pow_right (by omega) hi))
theorem joinL_flat {α:Type} {G:α→List Fd}:∀ (L:List α),(∀ a∈L,G a≠[])→joinL (L.map fun a=>joinL (G a))=joinL (L.flatMap G)
 | [],_=>rfl
 | [a],h=>by
  simp only [List.map_cons,List.map_nil,List.flatMap_cons,List.flatMap_nil,List.append_nil]
  rfl
 | a::b::r,h=>by
  have ih:=joinL_flat (b::r) (fun c hc=>h c (by simp [hc]))
  have hne:(b::r).flatMap G≠[]:=by
   have:=h b (by simp)
   simp [this]
  have e1:joinL ((a::b::r).map fun a=>joinL (G a))=(joinL (G a)).join (joinL ((b::r).map fun a=>joinL (G a))):=zB4 (by simp)
  have e2:joinL ((a::b::r).flatMap G)=(joinL (G a)).join (joinL ((b::r).flatMap G)):=by
   rw [List.flatMap_cons]
   exact joinL_append (h a (by simp)) hne
  rw [e1,e2,ih]
def sureL (bs:List (Int×Int)) (film w:Int×Int):List Nat:=(List.range (2^bs.length)).filter fun x=>decide (x≠0)&&isB w (lgN bs film bs.length x)
theorem hear_sure {bs:List (Int×Int)} {film w:Int×Int} {M:List (Lg×Fd)} {X:List Nat} (hX:X.Perm (List.range (2^bs.length))) (hR:Rp M X (lgN bs film bs.length)) {d:Nat} {seen:List Nat} (hp:(d::seen).Perm (List.range M.length))
  (hd:(M.getD d (⟨0,0,0⟩,⟨0,0,0,0⟩)).1=zLg):joinL (hearL M w seen)=joinL ((sureL bs film w).map fdx)∧(hearL M w seen=[]↔sureL bs film w=[]):=by
 let dd:Lg×Fd:=(⟨0,0,0⟩,⟨0,0,0,0⟩)
 obtain ⟨S,hS⟩:∃ S,(seen.map fun i=>M.getD i dd).filter (fun p=>isB w p.1)=S:=⟨_,rfl⟩
 have hh:hearL M w seen=S.map (·.2):=by rw [← hS];rfl
 have hall:((d::seen).map fun i=>M.getD i dd).Perm M:=by
  refine (hp.map _).trans ?_
  have:(List.range M.length).map (fun i=>M.getD i dd)=M:=by
   apply List.ext_getElem
   ·simp
   ·intro i h1 h2
    simp [h2]
  rw [this]
 rw [List.map_cons] at hall
 have hmem:∀ p∈S,p∈M∧isB w p.1=true:=fun p hp'=>by
  rw [← hS] at hp'
  obtain ⟨h1,h2⟩:=List.mem_filter.1 hp'
  exact ⟨hall.mem_iff.1 (List.mem_cons_of_mem _ h1),h2⟩
 have hnd:((M.getD d dd).1::(seen.map fun i=>M.getD i dd).map (·.1)).Nodup:=by
  have:=(hall.map (·.1)).nodup_iff.2 hR.nd
  simpa using this
 rw [List.nodup_cons] at hnd
 have hz:∀ p∈S,p.1≠zLg:=fun p hp' e=>by
  rw [← hS] at hp'
  refine hnd.1 ?_
  have hd':(M.getD d dd).1=zLg:=hd
  rw [hd',← e]
  exact List.mem_map_of_mem (List.mem_filter.1 hp').1
 have hSn:(S.map (·.1)).Nodup:=by
  rw [← hS]
  exact hnd.2.sublist ((List.filter_sublist).map _)
 let X':=X.filter fun x=>decide (x≠0)&&isB w (lgN bs film bs.length x)
 have hX':X'.Perm (sureL bs film w):=hX.filter _
 have hcov:∀ x∈X',lgN bs film bs.length x∈S.map (·.1):=fun x hx=>by
  obtain ⟨h1,h2⟩:=List.mem_filter.1 hx
  simp only [ne_eq,decide_not,Bool.and_eq_true,Bool.not_eq_true',decide_eq_false_iff_not] at h2
  obtain ⟨p,hpM,hpe⟩:=List.mem_map.1 (hR.cov x h1)
  have hxl:=List.mem_range.1 (hX.mem_iff.1 h1)
  refine List.mem_map.2 ⟨p,?_,hpe⟩
  rw [← hS]
  refine List.mem_filter.2 ⟨?_,by rw [hpe];exact h2.2⟩
  rcases List.mem_cons.1 (hall.mem_iff.2 hpM) with e | e
  ·exfalso
   refine h2.1 (lgN_zLg (bs:=bs) (film:=film) hxl ?_)
   rw [← hpe,e]
   exact hd
  ·exact e
 have hgr:∀ p∈S,X'.filter (fun x=>decide (lgN bs film bs.length x=p.1))=X.filter (fun x=>decide (lgN bs film bs.length x=p.1)):=fun p hpS=>by
  rw [List.filter_filter]
  refine List.filter_congr fun x hx=>?_
  by_cases e:lgN bs film bs.length x=p.1
  ·have hx0:x≠0:=by
    rintro rfl
    rw [lgN_zero] at e
    exact hz p hpS e.symm
   simp [e,hx0,(hmem p hpS).2]
  ·simp [e]
 have hflat:(S.flatMap fun p=>X'.filter (fun x=>decide (lgN bs film bs.length x=p.1))).Perm X':=by
  have:=keys_perm (S.map (·.1)) X' hSn hcov
  rwa [List.flatMap_map] at this
 have hv:S.map (·.2)=S.map fun p=>joinL ((X'.filter (fun x=>decide (lgN bs film bs.length x=p.1))).map fdx):=List.map_congr_left fun p hpS=>by
  rw [hgr p hpS]
  exact hR.val p (hmem p hpS).1
 have hne:∀ p∈S,(X'.filter (fun x=>decide (lgN bs film bs.length x=p.1))).map fdx≠[]:=fun p hpS=>by
  rw [hgr p hpS]
  have:=hR.ne p (hmem p hpS).1
  simpa using this
 constructor
 ·rw [hh,hv,joinL_flat S hne]
  refine joinL_perm ?_
  have:=(hflat.trans hX').map fdx
  rwa [List.map_flatMap] at this
 ·rw [hh]
  constructor
  ·intro h
   have hS0:S=[]:=by simpa using h
   rw [hS0] at hflat
   have h1:=hflat.symm.eq_nil
   have h2:=hX'
   rw [h1] at h2
   exact h2.symm.eq_nil
  ·intro h
   rw [h] at hX'
   have h1:=hX'.eq_nil
   cases hS1:S with
   | nil=>rfl
   | cons p r =>
    exfalso
    have:=hne p (by rw [hS1];simp)
    rw [h1] at this
    simp at this
theorem flat_len {α β:Type} {G:α→List β}:∀ (L:List α),(∀ a∈L,G a≠[])→L.length≤(L.flatMap G).length
 | [],_=>by simp
 | a::r,h=>by
  have ih:=flat_len r (fun c hc=>h c (by simp [hc]))
  have:=List.length_pos_iff.2 (h a (by simp))
  simp only [List.flatMap_cons,List.length_append,List.length_cons]
  omega
theorem Rp.len {M:List (Lg×Fd)} {X:List Nat} {lam:Nat→Lg} (h:Rp M X lam):M.length≤X.length:=by
 have h1:=(keys_perm (M.map (·.1)) X h.nd h.cov).length_eq
 have h2:=flat_len (G:=fun k=>X.filter fun x=>decide (lam x=k)) (M.map (·.1)) (fun k hk=>by
  obtain ⟨p,hp,rfl⟩:=List.mem_map.1 hk
  exact h.ne p hp)
 rw [h1,List.length_map] at h2
 exact h2
theorem sureL_lt {bs:List (Int×Int)} {film w:Int×Int} (hb:bs.length≤8):(∀ x∈sureL bs film w,x<1024)∧(sureL bs film w).length≤256:=by
 have h2:2^bs.length≤2^8:=Nat.pow_le_pow_right (by omega) hb
 refine ⟨fun x hx=>?_,?_⟩
 ·have:=List.mem_range.1 (List.mem_filter.1 hx).1
  omega
 ·have:=List.length_filter_le (fun x=>decide (x≠0)&&isB w (lgN bs film bs.length x)) (List.range (2^bs.length))
  rw [List.length_range] at this
  simp only [sureL]
  omega
theorem hear_ok {M:List (Lg×Fd)} (hM:okM M) (w:Int×Int) {seen:List Nat} (hs:∀ i∈seen,i<M.length):∀ f∈hearL M w seen,f.Ok∧f.many≤300:=by
 intro f hf
 simp only [hearL,List.mem_map,List.mem_filter] at hf
 obtain ⟨p,⟨⟨i,hi,rfl⟩,_⟩,rfl⟩:=hf
 exact hM _ (getD_memM (hs i hi) _)
theorem manyS_le {l:List Fd} {k:Nat} (h:∀ f∈l,f.many≤k):manyS l≤l.length*k:=by
 induction l with
 | nil=>simp [manyS]
 | cons x r ih =>
  have h1:=ih fun f hf=>h f (by simp [hf])
  have h2:=h x (by simp)
  simp only [manyS,List.map_cons,List.sum_cons,List.length_cons,Nat.add_mul,Nat.one_mul] at h1 ⊢
  omega
theorem st_all {p:Nat} {vb:AV} {bs:List (Int×Int)} {film:Int×Int} (hs:SetAt H p vb bs film) (w:Int×Int) :
  rootL cfg0 zA2 28 [.ptr p 0,.iface 81 (spA w)] H=some ⟨.ret (.tup [fdA (joinL ((sureL bs film w).map fdx)),.bool (decide (sureL bs film w≠[]))]),H,none⟩:=by
 refine root_some ?_
 have hth:=fun G:Heap=>st_that p 81 (spA w) G
 simp only [spA] at hth ⊢
 rw [kw_enter fn28 rfl (by simp [Tryz.f28])]
 simp -implicitDefEqProofs (maxSteps:=1000000) (disch:=first|rfl|omega|assumption) only [go_sem,ltT,ltF,leT,hth]
 rw [kw_enter fn85 rfl (by simp [Tryz.f85])]
 simp -implicitDefEqProofs (maxSteps:=1000000) (disch:=first|rfl|omega|assumption) only [go_sem,ltT,ltF,leT]
 have hc85:∀ b D,finN (cfg0.grow 85 999999) (cfg0.grow 85 999998) b D=zAd b D:=fun _ _=>rfl
 have hc28:∀ b D,finN (cfg0.grow 28 999999) (cfg0.grow 28 999998) b D=zAd b D:=fun _ _=>rfl
 refine st_lengths (hs.up ((Kp.refl H).app _)) ?_
 intro K m d M X hK hm k1 hi hz hX hR
 obtain ⟨e,hee⟩:∃ e:Env,e=[(11,.func (.func 85) [] [.ptr (H.length+3) 0,.ptr (H.length+4) 0]),(10,.iface 81 (.agg [I w.1,I w.2])),(9,.ptr p 0),(6,.ptr (H.length+2) 0),(5,.bool false),(4,.ptr H.length 0),(0,.ptr p 0),(1,.iface 81 (.agg [I w.1,I w.2]))]:=⟨_,rfl⟩
 have he:e.get 6=.ptr (H.length+2) 0:=by rw [hee];rfl
 have he4:e.get 4=.ptr H.length 0:=by rw [hee];rfl
 have hA:AllAt H p w (rA H e) [] K:=by
  have g:=fun i hi=>hK.get (i:=i) hi
  refine ⟨((Kp.refl H).app _).trans hK,by have:=hK.len;simp only [List.length_append,List.length_cons,List.length_nil] at this;omega,?_,?_,?_,?_,?_,?_,?_⟩
  all_goals rw [g _ (by simp)]
  all_goals simp
  ·rfl
  ·rw [hee];rfl
 have hMl:M.length≤300:=by
  have h1:=hR.len
  rw [hX.length_eq,List.length_range] at h1
  have h2:2^bs.length≤2^8:=Nat.pow_le_pow_right (by omega) hs.many
  omega
 have ml:=(List.getElem?_eq_some_iff.1 k1).1
 have hlm:=enM_len M
 have hKl:=hA.len
 simp only [List.length_append,List.length_cons,List.length_nil] at hm
 simp -implicitDefEqProofs (maxSteps:=1000000) (disch:=first|rfl|omega|assumption) only [go_sem,ltT,ltF,leT,k1,hlm,← hee]
 have hd:Met M.length [d] ((List.range M.length).erase d):=(List.perm_cons_erase (List.mem_range.2 hi)).symm
 refine th_loop (H:=H) (w:=w) he (m:=m) (d:=d) (it:=K.length) (M:=M) hMl ?_ (by omega) (by omega) (by omega) _ [] _ rfl hd (K++[.iter m M.length []]) (hA.app _) (by simp) (by rw [List.getElem?_append_left ml];exact k1) _ ?_ ?_ ?_
 rotate_left
 ·rfl
 ·rfl
 ·rfl
 intro K0 seen hA0 hp1
 have hA1:=hA0.cut
 have hl1:(K0.take (H.length+7)).length=H.length+7:=by rw [List.length_take];have:=hA0.len;omega
 obtain ⟨K1,hK1⟩:∃ K1,K0.take (H.length+7)=K1:=⟨_,rfl⟩
 rw [hK1] at hA1 hl1
 obtain ⟨hj1,hj2⟩:=hear_sure (w:=w) hX hR hp1 hz
 have hsl:∀ i∈seen,i<M.length:=fun i hi=>List.mem_range.1 (hp1.mem_iff.1 (List.mem_cons_of_mem _ hi))
 have hMo:okM M:=hR.okM (fun x hx=>by
  have h1:=List.mem_range.1 (hX.mem_iff.1 hx)
  have h2:2^bs.length≤2^8:=Nat.pow_le_pow_right (by omega) hs.many
  omega) (by rw [hX.length_eq,List.length_range];have h2:2^bs.length≤2^8:=Nat.pow_le_pow_right (by omega) hs.many;omega)
 have hok:=hear_ok hMo w hsl
 have hxl:=hearL_len M w seen
 have hse:seen.length≤300:=by
  have:=hp1.length_eq
  rw [List.length_cons,List.length_range] at this
  omega
 obtain ⟨xs,hxs⟩:∃ xs,hearL M w seen=xs:=⟨_,rfl⟩
 rw [hxs] at hj1 hj2 hok hxl hA1
 have hms:=manyS_le (k:=300) fun f hf=>(hok f hf).2
 have hl7:K1.length=H.length+7:=hl1
 obtain ⟨K2,h2⟩:∃ K2,K1.set (H.length+6) (.loop { rA H e with state:=.exhausted })=K2:=⟨_,rfl⟩
 have l2:K2.length=H.length+7:=by rw [← h2,List.length_set,hl7]
 have g2:∀ i,i≠H.length+6→K2[i]? = K1[i]? := fun i hi=>by rw [← h2,List.getElem?_set_ne (Ne.symm hi)]
 have hv:SlOk K2 4 (.gsl (H.length+1) xs.length) (xs.map fdA):=⟨⟨by rw [g2 _ (by omega)];exact hA1.g,(List.length_map _).symm⟩,fun x hx=>by
  obtain ⟨f,_,rfl⟩:=List.mem_map.1 hx;rfl⟩
 have hjo:=st_joined hv (by omega) (fun f hf=>(hok f hf).1) (by
  have:xs.length*300≤300*300:=Nat.mul_le_mul_right _ (by omega)
  omega)
 obtain ⟨jm,hjm⟩:∃ jm,joinL xs=jm:=⟨_,rfl⟩
 rw [hjm] at hjo
 have hj3:joinL ((sureL bs film w).map fdx)=jm:=by rw [← hj1];exact hjm
 rw [hj3]
 obtain ⟨K3,h3⟩:∃ K3,K2.set H.length (.box (fdA jm))=K3:=⟨_,rfl⟩
 have g3:∀ i,i≠H.length→K3[i]? = K2[i]? := fun i hi=>by rw [← h3,List.getElem?_set_ne (Ne.symm hi)]
 have s3:K3[H.length]? = some (.box (fdA jm)):=by rw [← h3,List.getElem?_set_self (by omega)]
 obtain ⟨K4,h4⟩:∃ K4,K3.set (H.length+5) .dead=K4:=⟨_,rfl⟩
 have g4:∀ i,i≠H.length+5→K4[i]? = K3[i]? := fun i hi=>by rw [← h4,List.getElem?_set_ne (Ne.symm hi)]
 have s4:K4[H.length]? = some (.box (fdA jm)):=by rw [g4 _ (by omega)];exact s3
 have kp:K4.take H.length=H:=by
  have:Kp H K4:=by
   rw [← h4,← h3,← h2]
   exact ((hA1.old.set (by omega) _).set (by omega) _).set (by omega) _
  exact this
 have m6:=hA1.l
 have m2:K2[H.length+2]? = some (.box (.gsl (H.length+1) xs.length)):=by rw [g2 _ (by omega)];exact hA1.b
 have m0:K2[H.length]? = some (.box (.agg [I 0,U 0,U 0,U 0])):=by rw [g2 _ (by omega)];exact hA1.z
 have m32:K3[H.length+2]? = some (.box (.gsl (H.length+1) xs.length)):=by rw [g3 _ (by omega)];exact m2
 have m5:K3[H.length+5]? = some .dfr:=by rw [g3 _ (by omega),g2 _ (by omega)];exact hA1.d
 have hb:decide ((0:Int)<xs.length)=decide (sureL bs film w≠[]):=by
  rw [Bool.eq_iff_iff,decide_eq_true_eq,decide_eq_true_eq]
  constructor
  ·intro h h0
   rw [hj2.2 h0] at h
   simp at h
  ·intro h
   have:xs≠[]:=fun h0=>h (hj2.1 h0)
   have:=List.length_pos_iff.2 this
   omega
 rw [← hb]
 obtain ⟨fm,fl,fe,fs⟩:=jm
 simp only [zAn,zAm,List.nil_append,List.append_nil,List.cons_append,List.getElem?_cons_zero,List.getElem?_cons_succ,Tryz.f28,rA] at h2 m6
 simp only [fdA] at hjo h3 s3 s4 ⊢
 skip
 simp -implicitDefEqProofs (maxSteps:=1000000) (disch:=first|rfl|omega|assumption) only [go_sem,ltT,ltF,leT,hc28,hc85,hK1,m6,h2]
 rw [zAa];rotate_left;kernel_rfl
 simp -implicitDefEqProofs (maxSteps:=1000000) (disch:=first|rfl|omega|assumption) only [go_sem,ltT,ltF,leT,hc28,m2,m32,m0,hjo,h3,m5,h4,s4,kp,he,he4,ne_eq,reduceCtorEq,not_false_eq_true,true_and]
 done
theorem st_ask (b:Bool) (e:Int) (H:Heap):zA9 cfg0 zA2 false 29 [.bool b,I e] H none=some ⟨if b then .ret (.tup []) else .pan (.iface 139 (I e)),H,none⟩:=by
 refine (zA1 fn29 rfl (by simp [Tryz.f29])).trans ?_
 cases b
 ·skip
  simp -implicitDefEqProofs (maxSteps:=1000000) (disch:=first|rfl|omega|assumption) only [go_sem,ltT,ltF,leT]
  done
 ·skip
  simp -implicitDefEqProofs (maxSteps:=1000000) (disch:=first|rfl|omega|assumption) only [go_sem,ltT,ltF,leT]
  done
structure StOk (H:Heap) (vb:AV) (bs:List (Int×Int)) (film:Int×Int):Prop where
 sl:SlOk H 2 vb (bs.map spA)
 many:bs.length≤8
 ok:∀ b∈bs,1≤b.1∧b.1≤b.2∧b.2≤500∧b.2-b.1≤6
 film:0≤film.1∧film.1≤film.2∧film.2≤5
theorem StOk.app {vb:AV} {bs:List (Int×Int)} {film:Int×Int} (h:StOk H vb bs film) (G:Heap):StOk (H++G) vb bs film:=⟨h.sl.app G,h.many,h.ok,h.film⟩
theorem ok2:∀ l:List (Int×Int),zBq 2 true (l.map spA)=true
 | []=>rfl
 | x::r=>by
  have:=ok2 r
  simp only [List.map_cons,zBq,this,Bool.and_true]
  rfl
def opH (H:Heap) (vb:AV) (bs:List (Int×Int)) (film:Int×Int):Heap :=
 [.box (.agg [vb,I film.1,I film.2]),.grow 2 (bs.map spA),.box (.agg [.gsl (H.length+1) bs.length,I film.1,I film.2])]
theorem op_at {vb:AV} {bs:List (Int×Int)} {film:Int×Int} (h:StOk H vb bs film):SetAt (H++opH H vb bs film) (H.length+2) (.gsl (H.length+1) bs.length) bs film :=
 ⟨by simp [opH],⟨⟨by simp [opH],(List.length_map _).symm⟩,fun x hx=>by obtain ⟨f,_,rfl⟩:=List.mem_map.1 hx;rfl⟩,h.many,fun b hb=>⟨(h.ok b hb).1,(h.ok b hb).2.1,(h.ok b hb).2.2.1⟩,h.film⟩
theorem so_loop {vb:AV} {bs:List (Int×Int)} {film:Int×Int} (h:StOk H vb bs film) :
  ∀ (q j:Nat),j+q=bs.length→∀ (G:Heap),∀ E:Env,E.get 1=.bool true→E.get 2=.ptr H.length 0→E.get 35=vb→E.get 36=I bs.length→E.get 37=I j →
  Option.map (zAd H.length) (zAe cfg0 zA2 ⟨26,none,false,H.length⟩ (zA5 Tryz.f26 3) ⟨E,[],H++(.box (.agg [vb,I film.1,I film.2])::G),none⟩)=some ⟨.ret (.ptr (H.length+2) 0),H++opH H vb bs film,none⟩:=by
 intro q
 obtain ⟨a1,a2,a3,a4,a5⟩:=h.sl.fF (d:=(0,0))
 have t1:=h.sl.ltn 1
 have h8:=h.many
 have l2:=h.sl.len
 rw [List.length_map] at l2
 have hs1:=h.sl.scal
 have hcp:evCopy cfg0 (H++[.box (.agg [vb,I film.1,I film.2]),.grow 2 (List.replicate bs.length (.agg [I 0,I 0]))]) [33,33] (.gsl (H.length+1) bs.length) vb=some (I bs.length,H++[.box (.agg [vb,I film.1,I film.2]),.grow 2 (bs.map spA)]):=by
  have he:=(h.sl.app [.box (.agg [vb,I film.1,I film.2]),.grow 2 (List.replicate bs.length (.agg [I 0,I 0]))]).elems
  have hl:=spLt bs 0
  have ho:=ok2 bs
  have hg:∀ a b:AO,(H++[a,b])[H.length+1]? = some b:=fun a b=>by simp
  have hse:∀ a b c:AO,(H++[a,b]).set (H.length+1) c=H++[a,c]:=fun a b c=>by rw [List.set_append_right _ _ (by omega)];simp
  simp only [evCopy,sliceElem,ty33,ty31,hg,he,hl,Ty.agg,ho,List.length_replicate,List.length_map,and_self,decide_true,Bool.and_self,if_true,hse]
 induction q with
 | zero =>
  intro j hj G E g1 g2 g35 g36 g37
  have hk':¬ (j:Int)<((bs.length:Nat):Int):=by omega
  simp only [zA6,zA4,zA5,zA7,zA3,↓reduceIte,Option.some.injEq,Nat.reduceEqDiff,reduceCtorEq,Tryz.f26]
  rw [zA0]
  simp -implicitDefEqProofs (maxSteps:=1000000) (disch:=first|rfl|omega|assumption) only [go_sem,g1,g2,g35,g36,g37,ltT,ltF,leT,hk',t1,l2,hs1,st_ask,hcp,opH]
  done
 | succ q ih =>
  intro j hj G E g1 g2 g35 g36 g37
  have hk':(j:Int)<((bs.length:Nat):Int):=by omega
  have hk2:j<bs.length:=by omega
  obtain ⟨⟨lo,hi⟩,hxe⟩:∃ x,bs.getD j (0,0)=x:=⟨_,rfl⟩
  have hrd:zAf (spA (lo,hi)).cells 0 ⟨.struct [(0,3),(1,3)],2,16,some (.agg #[.int .i64 0,.int .i64 0])⟩=some (.agg [I lo,I hi]):=rfl
  have hb:=h.ok (lo,hi) (by rw [← hxe,List.getD_eq_getElem?_getD,List.getElem?_eq_getElem (show j<bs.length by omega)];exact List.getElem_mem _)
  simp only at hb
  obtain ⟨b1,b2,b3,b4⟩:=hb
  have key:=ih (j+1) (by omega) [.box (.agg [I lo,I hi])]
  simp only [zA6,zA4,zA5,zA7,zA3,↓reduceIte,Option.some.injEq,Nat.reduceEqDiff,reduceCtorEq,Tryz.f26]
  rw [zA0]
  simp -implicitDefEqProofs (maxSteps:=1000000) (disch:=first|rfl|omega|assumption) only [go_sem,g1,g2,g35,g36,g37,ltT,ltF,leT,hk',t1,a1,a2,a3,a4,hxe,hrd,b1,b2,b3,b4,st_ask]
  exact key _ (by rfl) (by rfl) (by rfl) (by rfl) (by rfl)
theorem st_open {vb:AV} {bs:List (Int×Int)} {film:Int×Int} (h:StOk H vb bs film):zA9 cfg0 zA2 false 26 [.agg [vb,I film.1,I film.2],.bool true] H none=some ⟨.ret (.ptr (H.length+2) 0),H++opH H vb bs film,none⟩:=by
 have t1:=h.sl.ltn 1
 have h8:=h.many
 have l2:=h.sl.len
 rw [List.length_map] at l2
 have hs1:=h.sl.scal
 obtain ⟨f1,f2,f3⟩:=h.film
 have key:=so_loop h bs.length 0 (by omega) []
 have c2:(bs.length:Int)≤8:=by omega
 refine (zA1 fn26 rfl (by simp [Tryz.f26])).trans ?_
 simp -implicitDefEqProofs (maxSteps:=1000000) (disch:=first|rfl|omega|assumption) only [go_sem,ltT,ltF,leT,t1,l2,hs1,st_ask,c2,f1,f2,f3]
 exact key _ (by rfl) (by rfl) (by rfl) (by rfl) (by rfl)
theorem st_isWant (w:Int×Int) (h:0≤w.1∧w.1≤w.2∧w.2≤5000) (H:Heap):zA9 cfg0 zA2 false 27 [.agg [I w.1,I w.2]] H none=some ⟨.ret (.bool true),H,none⟩:=by
 obtain ⟨h1,h2,h3⟩:=h
 refine (zA1 fn27 rfl (by simp [Tryz.f27])).trans ?_
 simp -implicitDefEqProofs (maxSteps:=1000000) (disch:=first|rfl|omega|assumption) only [go_sem,ltT,ltF,leT,h1,h2,h3]
 done
theorem st_ansn (l:Nat) (H:Heap):zA9 cfg0 zA2 true 25 [.ptr l 0] H none=some ⟨.ret (.tup []),H,none⟩:=by
 refine (zA1 fn25 rfl (by simp [Tryz.f25])).trans ?_
 simp -implicitDefEqProofs only [go_sem]
theorem st_anss (l:Nat) (e x:Int) (H:Heap) (h:H[l]? = some (.box (I x))):zA9 cfg0 zA2 true 25 [.ptr l 0] H (some (.iface 139 (I e),false))=some ⟨.ret (.tup []),H.set l (.box (I e)),some (.iface 139 (I e),true)⟩:=by
 have hl:l<H.length:=(List.getElem?_eq_some_iff.1 h).1
 refine (zA1 fn25 rfl (by simp [Tryz.f25])).trans ?_
 simp -implicitDefEqProofs only [go_sem,zAt hl,set_lt hl,h]
def fewS (bs:List (Int×Int)) (film w:Int×Int):Nat:=(joinL ((sureL bs film w).map fdx)).least
theorem st_Fewest {vb:AV} {bs:List (Int×Int)} {film w:Int×Int} (h:StOk H vb bs film) (hw:0≤w.1∧w.1≤w.2∧w.2≤5000) :
  zA9 cfg0 zA2 false 8 [.agg [vb,I film.1,I film.2],.agg [I w.1,I w.2]] H none=some ⟨.ret (if sureL bs film w=[] then .tup [I 0,I 4] else .tup [I (fewS bs film w),I 0]),H,none⟩:=by
 have t1:=fun k=>h.sl.ltn k
 have hs1:=h.sl.scal
 have ho:=fun G:Heap=>st_open (h.app G)
 have hi:=fun G:Heap=>st_isWant w hw G
 have ha:=st_all (op_at (h.app [.box (.agg [vb,I film.1,I film.2]),.box (.agg [I w.1,I w.2]),.box (I 0),.box (.agg [.int .i64 0,.int .u64 0,.int .u64 0,.int .u64 0])])) w
 obtain ⟨⟨fm,fl,fe,fs⟩,hj⟩:∃ f,joinL ((sureL bs film w).map fdx)=f:=⟨_,rfl⟩
 have hf:fewS bs film w=fl:=by rw [fewS,hj]
 have hfl:fl<1024:=by
  have:=(joinL_many (sureL bs film w) (sureL_lt h.many).1).1.1
  rw [hj] at this
  exact this
 have hcv:IntKind.i64.wrap (fl:Int)=fl:=w64 (by omega) (by omega)
 have hans:∀ a b c d e g:AO,zA9 cfg0 zA2 true 25 [.ptr (H.length+2) 0] (H++[a,b,.box (I 0),c,d,e,g]) (some (.iface 139 (I 4),false))=some ⟨.ret (.tup []),H++[a,b,.box (I 4),c,d,e,g],some (.iface 139 (I 4),true)⟩:=fun a b c d e g=>by
  rw [st_anss (H.length+2) 4 0 _ (by simp),List.set_append_right _ _ (by omega)]
  simp
 rw [hf]
 simp only [hj,fdA,spA,opH,List.length_append,List.length_cons,List.length_nil,List.append_assoc,List.cons_append,List.nil_append,Nat.zero_add,Nat.add_assoc,Nat.reduceAdd,Int.natCast_zero] at ha
 simp only [opH] at ho
 by_cases hc:sureL bs film w=[]
 ·simp only [hc,ne_eq,not_true_eq_false,decide_false,if_true] at ha ⊢
  refine (zA1 fn8 rfl (by simp [Tryz.f8])).trans ?_
  simp -implicitDefEqProofs (maxSteps:=1000000) (disch:=first|rfl|omega|assumption) only [go_sem,ltT,ltF,leT,hs1,hi]
  rw [zAa];rotate_left;kernel_rfl
  simp -implicitDefEqProofs (maxSteps:=1000000) (disch:=first|rfl|omega|assumption) only [go_sem,ltT,ltF,leT,hs1,hi,ho,ha,st_ask,hans]
  done
 ·simp only [hc,ne_eq,not_false_eq_true,decide_true,if_false] at ha ⊢
  refine (zA1 fn8 rfl (by simp [Tryz.f8])).trans ?_
  simp -implicitDefEqProofs (maxSteps:=1000000) (disch:=first|rfl|omega|assumption) only [go_sem,ltT,ltF,leT,hs1,hi]
  rw [zAa];rotate_left;kernel_rfl
  simp -implicitDefEqProofs (maxSteps:=1000000) (disch:=first|rfl|omega|assumption) only [go_sem,ltT,ltF,leT,hs1,hi,ho,ha,st_ask,st_ansn,hcv]
  done
theorem of_loop {p:Nat} {vb:AV} {bs:List (Int×Int)} {film:Int×Int} (hs:SetAt H p vb bs film) {x:Nat} (hx:x<1024) :
  ∀ (q j:Nat),j+q=bs.length→∀ (G:Heap),∀ E:Env,E.get 0=.ptr p 0→E.get 1=U x→E.get 4=.ptr H.length 0→E.get 10=vb→E.get 11=I bs.length→E.get 12=I j →
  Option.map (zAd H.length) (zAe cfg0 zA2 ⟨31,none,false,H.length⟩ (zA5 Tryz.f31 2) ⟨E,[],H++(.box (lgA (lgN bs film j x))::G),none⟩)=some ⟨.ret (lgA (lgN bs film bs.length x)),H,none⟩:=by
 intro q
 obtain ⟨a1,a2,a3,a4,a5⟩:=hs.sl.fF (d:=(0,0))
 have t1:=hs.sl.ltn 1
 have h8:=hs.many
 have hp:=hs.box
 have hpl:=(List.getElem?_eq_some_iff.1 hp).1
 have hpl1:p<H.length+1:=by omega
 induction q with
 | zero =>
  intro j hj G E g0 g1 g4 g10 g11 g12
  have hk':¬ (j:Int)<((bs.length:Nat):Int):=by omega
  have ej:j=bs.length:=by omega
  subst ej
  obtain ⟨l,hl⟩:∃ l,lgN bs film bs.length x=l:=⟨_,rfl⟩
  rw [hl]
  simp only [lgA]
  simp only [zA6,zA4,zA5,zA7,zA3,↓reduceIte,Option.some.injEq,Nat.reduceEqDiff,reduceCtorEq,Tryz.f31]
  rw [zA0]
  simp -implicitDefEqProofs (maxSteps:=1000000) (disch:=first|rfl|omega|assumption) only [go_sem,g0,g1,g4,g10,g11,g12,ltT,ltF,leT,hk',t1,hpl1]
  done
 | succ q ih =>
  intro j hj G E g0 g1 g4 g10 g11 g12
  have hk':(j:Int)<((bs.length:Nat):Int):=by omega
  have hk2:j<bs.length:=by omega
  obtain ⟨⟨lo,hi⟩,hxe⟩:∃ y,bs.getD j (0,0)=y:=⟨_,rfl⟩
  have hb:=lgN_bd hs x j
  have hbd:=hs.bd j
  have hfi:=hs.film
  have key:=fun G=>ih (j+1) (by omega) G
  obtain ⟨l,hl⟩:∃ l,lgN bs film j x=l:=⟨_,rfl⟩
  have hln:lgN bs film (j+1) x=if x.testBit j then l.wit (lo,hi) film else l:=by simp only [lgN,hl,hxe]
  have hsh:=shrN (s:=x) (j:=j) (by omega)
  have hand:=bitU (s:=x) (j:=j) (by omega)
  have hone:=and_one (s:=x) (j:=j)
  have z:¬ (j:Int)<0:=by omega
  rw [hl] at hb
  rw [hxe] at hbd
  simp only [hln] at key
  rw [hl]
  have hw:=fun G:Heap=>lg_with (H:=G) (l:=l) (b:=(lo,hi)) (film:=film) (by omega) (by omega) (by omega)
  cases hbit:x.testBit j
  ·rw [hbit] at hone
   simp only [hbit,Bool.false_eq_true,if_false] at key
   obtain ⟨l1,l2,l3⟩:=l
   simp only [lgA] at key ⊢
   simp only [zA6,zA4,zA5,zA7,zA3,↓reduceIte,Option.some.injEq,Nat.reduceEqDiff,reduceCtorEq,Tryz.f31]
   rw [zA0]
   simp -implicitDefEqProofs (maxSteps:=1000000) (disch:=first|rfl|omega|assumption) only [go_sem,g0,g1,g4,g10,g11,g12,ltT,ltF,leT,hk',t1,hpl1,a1,a2,a3,a4,hxe,spA,hsh,hand,hone,z]
   exact key _ _ (by rfl) (by rfl) (by rfl) (by rfl) (by rfl) (by rfl)
  ·rw [hbit] at hone
   simp only [hbit,if_true] at key
   obtain ⟨m,hm⟩:∃ m,l.wit (lo,hi) film=m:=⟨_,rfl⟩
   simp only [hm] at key hw
   obtain ⟨l1,l2,l3⟩:=l
   obtain ⟨m1,m2,m3⟩:=m
   simp only [lgA,spA] at key hw ⊢
   simp only [zA6,zA4,zA5,zA7,zA3,↓reduceIte,Option.some.injEq,Nat.reduceEqDiff,reduceCtorEq,Tryz.f31]
   rw [zA0]
   simp -implicitDefEqProofs (maxSteps:=1000000) (disch:=first|rfl|omega|assumption) only [go_sem,g0,g1,g4,g10,g11,g12,ltT,ltF,leT,hk',t1,hpl1,a1,a2,a3,a4,hxe,spA,hsh,hand,hone,z]
   rw [zAa];rotate_left;kernel_rfl
   simp -implicitDefEqProofs (maxSteps:=1000000) (disch:=first|rfl|omega|assumption) only [go_sem,g0,g1,g4,g10,g11,g12,ltT,ltF,leT,hk',t1,hpl1,zAt hpl,hp,hw]
   exact key _ _ (by rfl) (by rfl) (by rfl) (by rfl) (by rfl) (by rfl)
theorem st_of {p:Nat} {vb:AV} {bs:List (Int×Int)} {film:Int×Int} (hs:SetAt H p vb bs film) {x:Nat} (hx:x<1024):zA9 cfg0 zA2 false 31 [.ptr p 0,U x] H none=some ⟨.ret (lgA (lgN bs film bs.length x)),H,none⟩:=by
 have key:=of_loop hs hx bs.length 0 (by omega) []
 have hp:=hs.box
 have hpl:=(List.getElem?_eq_some_iff.1 hp).1
 have hlen:=hs.sl.len
 rw [List.length_map] at hlen
 simp only [lgN,lgA] at key
 simp only [lgA]
 refine (zA1 fn31 rfl (by simp [Tryz.f31])).trans ?_
 simp -implicitDefEqProofs (maxSteps:=1000000) (disch:=first|rfl|omega|assumption) only [go_sem,ltT,ltF,leT,zAt hpl,hp,hlen]
 exact key _ (by rfl) (by rfl) (by rfl) (by rfl) (by rfl) (by rfl)
theorem st_within (n lo hi:Int) (H:Heap):zA9 cfg0 zA2 false 66 [I n,I lo,I hi] H none=some ⟨.ret (.bool (wi n lo hi)),H,none⟩:=by
 refine (zA1 fn66 rfl (by simp [Tryz.f66])).trans ?_
 by_cases h1:lo≤n<;>simp -implicitDefEqProofs only [go_sem,h1,wi]
theorem st_isSet {vb:AV} {bs:List (Int×Int)} {film:Int×Int} (h:StOk H vb bs film) {x:Nat} (h1:1≤x) (h2:x<2^bs.length):zA9 cfg0 zA2 false 30 [.agg [vb,I film.1,I film.2],I x] H none=some ⟨.ret (.bool true),H,none⟩:=by
 have t1:=fun k=>h.sl.ltn k
 have h8:=h.many
 have l2:=h.sl.len
 rw [List.length_map] at l2
 have hs1:=h.sl.scal
 have hsh:=shlI (k:=bs.length) (by omega)
 have hp2:2^bs.length<2^10:=two_pow_lt (by omega)
 have hsu:IntKind.i64.wrap (((2^bs.length:Nat):Int)-1)=((2^bs.length:Nat):Int)-1:=w64 (by omega) (by omega)
 have hwi:wi (x:Int) 1 (((2^bs.length:Nat):Int)-1)=true:=by simp only [wi,Bool.and_eq_true,decide_eq_true_eq];omega
 have z:¬ (bs.length:Int)<0:=by omega
 refine (zA1 fn30 rfl (by simp [Tryz.f30])).trans ?_
 simp -implicitDefEqProofs (maxSteps:=1000000) (disch:=first|rfl|omega|assumption) only [go_sem,ltT,ltF,leT,hs1,l2,hsh,hsu,z,st_within,hwi]
 done
theorem st_Long {vb:AV} {bs:List (Int×Int)} {film:Int×Int} (h:StOk H vb bs film) {x:Nat} (h1:1≤x) (h2:x<2^bs.length) :
  zA9 cfg0 zA2 false 9 [.agg [vb,I film.1,I film.2],I x] H none=some ⟨.ret (.tup [.agg [I (lgN bs film bs.length x).lo,I (lgN bs film bs.length x).hi],I 0]),H,none⟩:=by
 have hs1:=h.sl.scal
 have hp2:2^bs.length<2^10:=two_pow_lt (by have:=h.many;omega)
 have ho:=fun G:Heap=>st_open (h.app G)
 have hi:=fun G:Heap=>st_isSet (h.app G) h1 h2
 have ha:=st_of (op_at (h.app [.box (.agg [vb,I film.1,I film.2]),.box (.agg [I 0,I 0]),.box (I 0)])) (x:=x) (by omega)
 have hcv:IntKind.u64.wrap (x:Int)=x:=wrapU (by omega)
 simp only [lgA,opH,List.length_append,List.length_cons,List.length_nil,List.append_assoc,List.cons_append,List.nil_append,Nat.zero_add,Nat.add_assoc,Nat.reduceAdd,Int.natCast_zero] at ha
 simp only [opH] at ho
 refine (zA1 fn9 rfl (by simp [Tryz.f9])).trans ?_
 simp -implicitDefEqProofs (maxSteps:=1000000) (disch:=first|rfl|omega|assumption) only [go_sem,ltT,ltF,leT,hs1,hi]
 rw [zAa];rotate_left;kernel_rfl
 simp -implicitDefEqProofs (maxSteps:=1000000) (disch:=first|rfl|omega|assumption) only [go_sem,ltT,ltF,leT,hs1,hi,ho,ha,hcv,st_ansn]
 done
end Go.Ab
