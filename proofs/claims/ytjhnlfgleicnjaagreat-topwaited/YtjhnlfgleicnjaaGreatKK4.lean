/- Stacks: all is walked. -/
import Derived.Test.YtjhnlfgleicnjaaGreatKK3
namespace Go.Ab
open Go.Proofs
set_option linter.unusedSimpArgs false
set_option linter.unusedVariables false
set_option maxRecDepth 100000
set_option maxHeartbeats 2000000
variable {H:Heap}
theorem flat_len {α β:Type} {G:α→List β}:∀ (L:List α),(∀ a∈L,G a≠[])→L.length≤(L.flatMap G).length
 | [],_=>by simp
 | a::r,h=>by
  have ih:=flat_len r (fun c hc=>h c (by simp [hc]))
  have:=List.length_pos_iff.2 (h a (by simp))
  simp only [List.flatMap_cons,List.length_append,List.length_cons]
  omega
theorem Rp.len {M:List (Lg×Fd)} {X:List Nat} {lam:Nat→Lg} (h:Rp M X lam):M.length≤X.length:=by
 have h1:=(keys_perm (M.map (·.1)) X h.nd h.cov).length_eq
 have h2:=flat_len (G:=fun k=>X.filter fun x=>decide (lam x=k)) (M.map (·.1)) (fun k hk=>by
  obtain ⟨p,hp,rfl⟩:=List.mem_map.1 hk
  exact h.ne p hp)
 rw [h1,List.length_map] at h2
 exact h2
theorem sureL_lt {bs:List (Int×Int)} {film w:Int×Int} (hb:bs.length≤8):(∀ x∈sureL bs film w,x<1024)∧(sureL bs film w).length≤256:=by
 have h2:2^bs.length≤2^8:=Nat.pow_le_pow_right (by omega) hb
 refine ⟨fun x hx=>?_,?_⟩
 ·have:=List.mem_range.1 (List.mem_filter.1 hx).1
  omega
 ·have:=List.length_filter_le (fun x=>decide (x≠0)&&isB w (lgN bs film bs.length x)) (List.range (2^bs.length))
  rw [List.length_range] at this
  simp only [sureL]
  omega
theorem hear_ok {M:List (Lg×Fd)} (hM:okM M) (w:Int×Int) {seen:List Nat} (hs:∀ i∈seen,i<M.length):∀ f∈hearL M w seen,f.Ok∧f.many≤300:=by
 intro f hf
 simp only [hearL,List.mem_map,List.mem_filter] at hf
 obtain ⟨p,⟨⟨i,hi,rfl⟩,_⟩,rfl⟩:=hf
 exact hM _ (getD_memM (hs i hi) _)
theorem manyS_le {l:List Fd} {k:Nat} (h:∀ f∈l,f.many≤k):manyS l≤l.length*k:=by
 induction l with
 | nil=>simp [manyS]
 | cons x r ih =>
  have h1:=ih fun f hf=>h f (by simp [hf])
  have h2:=h x (by simp)
  simp only [manyS,List.map_cons,List.sum_cons,List.length_cons,Nat.add_mul,Nat.one_mul] at h1 ⊢
  omega
theorem st_all {p:Nat} {vb:AV} {bs:List (Int×Int)} {film:Int×Int} (hs:SetAt H p vb bs film) (w:Int×Int) :
  rootL cfg0 zA0 75 [.ptr p 0,.iface 136 (spA w)] H=some ⟨.ret (.tup [fdA (joinL ((sureL bs film w).map fdx)),.bool (decide (sureL bs film w≠[]))]),H,none⟩:=by
 refine root_some ?_
 have hth:=fun G:Heap=>st_that p 136 (spA w) G
 simp only [spA] at hth ⊢
 rw [kw_enter fn75 rfl (by simp [Tryz.f75])]
 simp -implicitDefEqProofs (maxSteps:=1000000) (disch:=first|rfl|omega|assumption) only [go_sem,ltT,ltF,leT,hth]
 rw [kw_enter fn88 rfl (by simp [Tryz.f88])]
 simp -implicitDefEqProofs (maxSteps:=1000000) (disch:=first|rfl|omega|assumption) only [go_sem,ltT,ltF,leT]
 have hc85:∀ b D,finN (cfg0.grow 88 999999) (cfg0.grow 88 999998) b D=zAi b D:=fun _ _=>rfl
 have hc28:∀ b D,finN (cfg0.grow 75 999999) (cfg0.grow 75 999998) b D=zAi b D:=fun _ _=>rfl
 refine st_lengths (hs.up ((Kp.refl H).app _)) ?_
 intro K m d M X hK hm k1 hi hz hX hR
 obtain ⟨e,hee⟩:∃ e:Env,e=[(11,.func (.func 88) [] [.ptr (H.length+3) 0,.ptr (H.length+4) 0]),(10,.iface 136 (.agg [I w.1,I w.2])),(9,.ptr p 0),(6,.ptr (H.length+2) 0),(5,.bool false),(4,.ptr H.length 0),(0,.ptr p 0),(1,.iface 136 (.agg [I w.1,I w.2]))]:=⟨_,rfl⟩
 have he:e.get 6=.ptr (H.length+2) 0:=by rw [hee];rfl
 have he4:e.get 4=.ptr H.length 0:=by rw [hee];rfl
 have hA:AllAt H p w (rA H e) [] K:=by
  have g:=fun i hi=>hK.get (i:=i) hi
  refine ⟨((Kp.refl H).app _).trans hK,by have:=hK.len;simp only [List.length_append,List.length_cons,List.length_nil] at this;omega,?_,?_,?_,?_,?_,?_,?_⟩
  all_goals rw [g _ (by simp)]
  all_goals simp
  ·rfl
  ·rw [hee];rfl
 have hMl:M.length≤300:=by
  have h1:=hR.len
  rw [hX.length_eq,List.length_range] at h1
  have h2:2^bs.length≤2^8:=Nat.pow_le_pow_right (by omega) hs.many
  omega
 have ml:=(List.getElem?_eq_some_iff.1 k1).1
 have hlm:=enM_len M
 have hKl:=hA.len
 simp only [List.length_append,List.length_cons,List.length_nil] at hm
 simp -implicitDefEqProofs (maxSteps:=1000000) (disch:=first|rfl|omega|assumption) only [go_sem,ltT,ltF,leT,k1,hlm,← hee]
 have hd:Met M.length [d] ((List.range M.length).erase d):=(List.perm_cons_erase (List.mem_range.2 hi)).symm
 refine th_loop (H:=H) (w:=w) he (m:=m) (d:=d) (it:=K.length) (M:=M) hMl ?_ (by omega) (by omega) (by omega) _ [] _ rfl hd (K++[.iter m M.length []]) (hA.app _) (by simp) (by rw [List.getElem?_append_left ml];exact k1) _ ?_ ?_ ?_
 rotate_left
 ·rfl
 ·rfl
 ·rfl
 intro K0 seen hA0 hp1
 have hA1:=hA0.cut
 have hl1:(K0.take (H.length+7)).length=H.length+7:=by rw [List.length_take];have:=hA0.len;omega
 obtain ⟨K1,hK1⟩:∃ K1,K0.take (H.length+7)=K1:=⟨_,rfl⟩
 rw [hK1] at hA1 hl1
 obtain ⟨hj1,hj2⟩:=hear_sure (w:=w) hX hR hp1 hz
 have hsl:∀ i∈seen,i<M.length:=fun i hi=>List.mem_range.1 (hp1.mem_iff.1 (List.mem_cons_of_mem _ hi))
 have hMo:okM M:=hR.okM (fun x hx=>by
  have h1:=List.mem_range.1 (hX.mem_iff.1 hx)
  have h2:2^bs.length≤2^8:=Nat.pow_le_pow_right (by omega) hs.many
  omega) (by rw [hX.length_eq,List.length_range];have h2:2^bs.length≤2^8:=Nat.pow_le_pow_right (by omega) hs.many;omega)
 have hok:=hear_ok hMo w hsl
 have hxl:=hearL_len M w seen
 have hse:seen.length≤300:=by
  have:=hp1.length_eq
  rw [List.length_cons,List.length_range] at this
  omega
 obtain ⟨xs,hxs⟩:∃ xs,hearL M w seen=xs:=⟨_,rfl⟩
 rw [hxs] at hj1 hj2 hok hxl hA1
 have hms:=manyS_le (k:=300) fun f hf=>(hok f hf).2
 have hl7:K1.length=H.length+7:=hl1
 obtain ⟨K2,h2⟩:∃ K2,K1.set (H.length+6) (.loop { rA H e with state:=.exhausted })=K2:=⟨_,rfl⟩
 have l2:K2.length=H.length+7:=by rw [← h2,List.length_set,hl7]
 have g2:∀ i,i≠H.length+6→K2[i]? = K1[i]? := fun i hi=>by rw [← h2,List.getElem?_set_ne (Ne.symm hi)]
 have hv:SlOk K2 4 (.gsl (H.length+1) xs.length) (xs.map fdA):=⟨⟨by rw [g2 _ (by omega)];exact hA1.g,(List.length_map _).symm⟩,fun x hx=>by
  obtain ⟨f,_,rfl⟩:=List.mem_map.1 hx;rfl⟩
 have hjo:=st_joined hv (by omega) (fun f hf=>(hok f hf).1) (by
  have:xs.length*300≤300*300:=Nat.mul_le_mul_right _ (by omega)
  omega)
 obtain ⟨jm,hjm⟩:∃ jm,joinL xs=jm:=⟨_,rfl⟩
 rw [hjm] at hjo
 have hj3:joinL ((sureL bs film w).map fdx)=jm:=by rw [← hj1];exact hjm
 rw [hj3]
 obtain ⟨K3,h3⟩:∃ K3,K2.set H.length (.box (fdA jm))=K3:=⟨_,rfl⟩
 have g3:∀ i,i≠H.length→K3[i]? = K2[i]? := fun i hi=>by rw [← h3,List.getElem?_set_ne (Ne.symm hi)]
 have s3:K3[H.length]? = some (.box (fdA jm)):=by rw [← h3,List.getElem?_set_self (by omega)]
 obtain ⟨K4,h4⟩:∃ K4,K3.set (H.length+5) .dead=K4:=⟨_,rfl⟩
 have g4:∀ i,i≠H.length+5→K4[i]? = K3[i]? := fun i hi=>by rw [← h4,List.getElem?_set_ne (Ne.symm hi)]
 have s4:K4[H.length]? = some (.box (fdA jm)):=by rw [g4 _ (by omega)];exact s3
 have kp:K4.take H.length=H:=by
  have:Kp H K4:=by
   rw [← h4,← h3,← h2]
   exact ((hA1.old.set (by omega) _).set (by omega) _).set (by omega) _
  exact this
 have m6:=hA1.l
 have m2:K2[H.length+2]? = some (.box (.gsl (H.length+1) xs.length)):=by rw [g2 _ (by omega)];exact hA1.b
 have m0:K2[H.length]? = some (.box (.agg [I 0,U 0,U 0,U 0])):=by rw [g2 _ (by omega)];exact hA1.z
 have m32:K3[H.length+2]? = some (.box (.gsl (H.length+1) xs.length)):=by rw [g3 _ (by omega)];exact m2
 have m5:K3[H.length+5]? = some .dfr:=by rw [g3 _ (by omega),g2 _ (by omega)];exact hA1.d
 have hb:decide ((0:Int)<xs.length)=decide (sureL bs film w≠[]):=by
  rw [Bool.eq_iff_iff,decide_eq_true_eq,decide_eq_true_eq]
  constructor
  ·intro h h0
   rw [hj2.2 h0] at h
   simp at h
  ·intro h
   have:xs≠[]:=fun h0=>h (hj2.1 h0)
   have:=List.length_pos_iff.2 this
   omega
 rw [← hb]
 obtain ⟨fm,fl,fe,fs⟩:=jm
 simp only [zAq,zAo,List.nil_append,List.append_nil,List.cons_append,List.getElem?_cons_zero,List.getElem?_cons_succ,Tryz.f75,rA] at h2 m6
 simp only [fdA] at hjo h3 s3 s4 ⊢
 skip
 simp -implicitDefEqProofs (maxSteps:=1000000) (disch:=first|rfl|omega|assumption) only [go_sem,ltT,ltF,leT,hc28,hc85,hK1,m6,h2]
 rw [zAg];rotate_left;kernel_rfl
 simp -implicitDefEqProofs (maxSteps:=1000000) (disch:=first|rfl|omega|assumption) only [go_sem,ltT,ltF,leT,hc28,m2,m32,m0,hjo,h3,m5,h4,s4,kp,he,he4,ne_eq,reduceCtorEq,not_false_eq_true,true_and]
 done
theorem st_ask (b:Bool) (e:Int) (H:Heap):zA8 cfg0 zA0 false 76 [.bool b,I e] H none=some ⟨if b then .ret (.tup []) else .pan (.iface 157 (I e)),H,none⟩:=by
 refine (zA1 fn76 rfl (by simp [Tryz.f76])).trans ?_
 cases b
 ·skip
  simp -implicitDefEqProofs (maxSteps:=1000000) (disch:=first|rfl|omega|assumption) only [go_sem,ltT,ltF,leT]
  done
 ·skip
  simp -implicitDefEqProofs (maxSteps:=1000000) (disch:=first|rfl|omega|assumption) only [go_sem,ltT,ltF,leT]
  done
structure StOk (H:Heap) (vb:AV) (bs:List (Int×Int)) (film:Int×Int):Prop where
 sl:SlOk H 2 vb (bs.map spA)
 many:bs.length≤8
 ok:∀ b∈bs,1≤b.1∧b.1≤b.2∧b.2≤500∧b.2-b.1≤6
 film:0≤film.1∧film.1≤film.2∧film.2≤5
theorem StOk.app {vb:AV} {bs:List (Int×Int)} {film:Int×Int} (h:StOk H vb bs film) (G:Heap):StOk (H++G) vb bs film:=⟨h.sl.app G,h.many,h.ok,h.film⟩
theorem ok2:∀ l:List (Int×Int),zB9 2 true (l.map spA)=true
 | []=>rfl
 | x::r=>by
  have:=ok2 r
  simp only [List.map_cons,zB9,this,Bool.and_true]
  rfl
def opH (H:Heap) (vb:AV) (bs:List (Int×Int)) (film:Int×Int):Heap :=
 [.box (.agg [vb,I film.1,I film.2]),.grow 2 (bs.map spA),.box (.agg [.gsl (H.length+1) bs.length,I film.1,I film.2])]
theorem op_at {vb:AV} {bs:List (Int×Int)} {film:Int×Int} (h:StOk H vb bs film):SetAt (H++opH H vb bs film) (H.length+2) (.gsl (H.length+1) bs.length) bs film :=
 ⟨by simp [opH],⟨⟨by simp [opH],(List.length_map _).symm⟩,fun x hx=>by obtain ⟨f,_,rfl⟩:=List.mem_map.1 hx;rfl⟩,h.many,fun b hb=>⟨(h.ok b hb).1,(h.ok b hb).2.1,(h.ok b hb).2.2.1⟩,h.film⟩
theorem so_loop {vb:AV} {bs:List (Int×Int)} {film:Int×Int} (h:StOk H vb bs film) :
  ∀ (q j:Nat),j+q=bs.length→∀ (G:Heap),∀ E:Env,E.get 1=.bool true→E.get 2=.ptr H.length 0→E.get 35=vb→E.get 36=I bs.length→E.get 37=I j →
  Option.map (zAi H.length) (zAh cfg0 zA0 ⟨73,none,false,H.length⟩ (zA7 Tryz.f73 3) ⟨E,[],H++(.box (.agg [vb,I film.1,I film.2])::G),none⟩)=some ⟨.ret (.ptr (H.length+2) 0),H++opH H vb bs film,none⟩:=by
 intro q
 obtain ⟨a1,a2,a3,a4,a5⟩:=h.sl.fF (d:=(0,0))
 have t1:=h.sl.ltn 1
 have h8:=h.many
 have l2:=h.sl.len
 rw [List.length_map] at l2
 have hs1:=h.sl.scal
 have hcp:evCopy cfg0 (H++[.box (.agg [vb,I film.1,I film.2]),.grow 2 (List.replicate bs.length (.agg [I 0,I 0]))]) [102,102] (.gsl (H.length+1) bs.length) vb=some (I bs.length,H++[.box (.agg [vb,I film.1,I film.2]),.grow 2 (bs.map spA)]):=by
  have he:=(h.sl.app [.box (.agg [vb,I film.1,I film.2]),.grow 2 (List.replicate bs.length (.agg [I 0,I 0]))]).elems
  have hl:=spLt bs 0
  have ho:=ok2 bs
  have hg:∀ a b:AO,(H++[a,b])[H.length+1]? = some b:=fun a b=>by simp
  have hse:∀ a b c:AO,(H++[a,b]).set (H.length+1) c=H++[a,c]:=fun a b c=>by rw [List.set_append_right _ _ (by omega)];simp
  simp only [evCopy,sliceElem,ty102,ty37,hg,he,hl,Ty.agg,ho,List.length_replicate,List.length_map,and_self,decide_true,Bool.and_self,if_true,hse]
 induction q with
 | zero =>
  intro j hj G E g1 g2 g35 g36 g37
  have hk':¬ (j:Int)<((bs.length:Nat):Int):=by omega
  simp only [zAb,zA4,zA7,zAa,zA3,↓reduceIte,Option.some.injEq,Nat.reduceEqDiff,reduceCtorEq,Tryz.f73]
  rw [zA2]
  simp -implicitDefEqProofs (maxSteps:=1000000) (disch:=first|rfl|omega|assumption) only [go_sem,g1,g2,g35,g36,g37,ltT,ltF,leT,hk',t1,l2,hs1,st_ask,hcp,opH]
  done
 | succ q ih =>
  intro j hj G E g1 g2 g35 g36 g37
  have hk':(j:Int)<((bs.length:Nat):Int):=by omega
  have hk2:j<bs.length:=by omega
  obtain ⟨⟨lo,hi⟩,hxe⟩:∃ x,bs.getD j (0,0)=x:=⟨_,rfl⟩
  have hrd:zAy (spA (lo,hi)).cells 0 ⟨.struct [(0,3),(1,3)],2,16,some (.agg #[.int .i64 0,.int .i64 0])⟩=some (.agg [I lo,I hi]):=rfl
  have hb:=h.ok (lo,hi) (by rw [← hxe,List.getD_eq_getElem?_getD,List.getElem?_eq_getElem (show j<bs.length by omega)];exact List.getElem_mem _)
  simp only at hb
  obtain ⟨b1,b2,b3,b4⟩:=hb
  have key:=ih (j+1) (by omega) [.box (.agg [I lo,I hi])]
  simp only [zAb,zA4,zA7,zAa,zA3,↓reduceIte,Option.some.injEq,Nat.reduceEqDiff,reduceCtorEq,Tryz.f73]
  rw [zA2]
  simp -implicitDefEqProofs (maxSteps:=1000000) (disch:=first|rfl|omega|assumption) only [go_sem,g1,g2,g35,g36,g37,ltT,ltF,leT,hk',t1,a1,a2,a3,a4,hxe,hrd,b1,b2,b3,b4,st_ask]
  exact key _ (by rfl) (by rfl) (by rfl) (by rfl) (by rfl)
theorem st_open {vb:AV} {bs:List (Int×Int)} {film:Int×Int} (h:StOk H vb bs film):zA8 cfg0 zA0 false 73 [.agg [vb,I film.1,I film.2],.bool true] H none=some ⟨.ret (.ptr (H.length+2) 0),H++opH H vb bs film,none⟩:=by
 have t1:=h.sl.ltn 1
 have h8:=h.many
 have l2:=h.sl.len
 rw [List.length_map] at l2
 have hs1:=h.sl.scal
 obtain ⟨f1,f2,f3⟩:=h.film
 have key:=so_loop h bs.length 0 (by omega) []
 have c2:(bs.length:Int)≤8:=by omega
 refine (zA1 fn73 rfl (by simp [Tryz.f73])).trans ?_
 simp -implicitDefEqProofs (maxSteps:=1000000) (disch:=first|rfl|omega|assumption) only [go_sem,ltT,ltF,leT,t1,l2,hs1,st_ask,c2,f1,f2,f3]
 exact key _ (by rfl) (by rfl) (by rfl) (by rfl) (by rfl)
theorem st_isWant (w:Int×Int) (h:0≤w.1∧w.1≤w.2∧w.2≤5000) (H:Heap):zA8 cfg0 zA0 false 74 [.agg [I w.1,I w.2]] H none=some ⟨.ret (.bool true),H,none⟩:=by
 obtain ⟨h1,h2,h3⟩:=h
 refine (zA1 fn74 rfl (by simp [Tryz.f74])).trans ?_
 simp -implicitDefEqProofs (maxSteps:=1000000) (disch:=first|rfl|omega|assumption) only [go_sem,ltT,ltF,leT,h1,h2,h3]
 done
theorem st_ansn (l:Nat) (H:Heap):zA8 cfg0 zA0 true 72 [.ptr l 0] H none=some ⟨.ret (.tup []),H,none⟩:=by
 refine (zA1 fn72 rfl (by simp [Tryz.f72])).trans ?_
 simp -implicitDefEqProofs only [go_sem]
theorem st_anss (l:Nat) (e x:Int) (H:Heap) (h:H[l]? = some (.box (I x))):zA8 cfg0 zA0 true 72 [.ptr l 0] H (some (.iface 157 (I e),false))=some ⟨.ret (.tup []),H.set l (.box (I e)),some (.iface 157 (I e),true)⟩:=by
 have hl:l<H.length:=(List.getElem?_eq_some_iff.1 h).1
 refine (zA1 fn72 rfl (by simp [Tryz.f72])).trans ?_
 simp -implicitDefEqProofs only [go_sem,zA6 hl,set_lt hl,h]
def fewS (bs:List (Int×Int)) (film w:Int×Int):Nat:=(joinL ((sureL bs film w).map fdx)).least
theorem st_Fewest {vb:AV} {bs:List (Int×Int)} {film w:Int×Int} (h:StOk H vb bs film) (hw:0≤w.1∧w.1≤w.2∧w.2≤5000) :
  zA8 cfg0 zA0 false 57 [.agg [vb,I film.1,I film.2],.agg [I w.1,I w.2]] H none=some ⟨.ret (if sureL bs film w=[] then .tup [I 0,I 4] else .tup [I (fewS bs film w),I 0]),H,none⟩:=by
 have t1:=fun k=>h.sl.ltn k
 have hs1:=h.sl.scal
 have ho:=fun G:Heap=>st_open (h.app G)
 have hi:=fun G:Heap=>st_isWant w hw G
 have ha:=st_all (op_at (h.app [.box (.agg [vb,I film.1,I film.2]),.box (.agg [I w.1,I w.2]),.box (I 0),.box (.agg [.int .i64 0,.int .u64 0,.int .u64 0,.int .u64 0])])) w
 obtain ⟨⟨fm,fl,fe,fs⟩,hj⟩:∃ f,joinL ((sureL bs film w).map fdx)=f:=⟨_,rfl⟩
 have hf:fewS bs film w=fl:=by rw [fewS,hj]
 have hfl:fl<1024:=by
  have:=(joinL_many (sureL bs film w) (sureL_lt h.many).1).1.1
  rw [hj] at this
  exact this
 have hcv:IntKind.i64.wrap (fl:Int)=fl:=w64 (by omega) (by omega)
 have hans:∀ a b c d e g:AO,zA8 cfg0 zA0 true 72 [.ptr (H.length+2) 0] (H++[a,b,.box (I 0),c,d,e,g]) (some (.iface 157 (I 4),false))=some ⟨.ret (.tup []),H++[a,b,.box (I 4),c,d,e,g],some (.iface 157 (I 4),true)⟩:=fun a b c d e g=>by
  rw [st_anss (H.length+2) 4 0 _ (by simp),List.set_append_right _ _ (by omega)]
  simp
 rw [hf]
 simp only [hj,fdA,spA,opH,List.length_append,List.length_cons,List.length_nil,List.append_assoc,List.cons_append,List.nil_append,Nat.zero_add,Nat.add_assoc,Nat.reduceAdd,Int.natCast_zero] at ha
 simp only [opH] at ho
 by_cases hc:sureL bs film w=[]
 ·simp only [hc,ne_eq,not_true_eq_false,decide_false,if_true] at ha ⊢
  refine (zA1 fn57 rfl (by simp [Tryz.f57])).trans ?_
  simp -implicitDefEqProofs (maxSteps:=1000000) (disch:=first|rfl|omega|assumption) only [go_sem,ltT,ltF,leT,hs1,hi]
  rw [zAg];rotate_left;kernel_rfl
  simp -implicitDefEqProofs (maxSteps:=1000000) (disch:=first|rfl|omega|assumption) only [go_sem,ltT,ltF,leT,hs1,hi,ho,ha,st_ask,hans]
  done
 ·simp only [hc,ne_eq,not_false_eq_true,decide_true,if_false] at ha ⊢
  refine (zA1 fn57 rfl (by simp [Tryz.f57])).trans ?_
  simp -implicitDefEqProofs (maxSteps:=1000000) (disch:=first|rfl|omega|assumption) only [go_sem,ltT,ltF,leT,hs1,hi]
  rw [zAg];rotate_left;kernel_rfl
  simp -implicitDefEqProofs (maxSteps:=1000000) (disch:=first|rfl|omega|assumption) only [go_sem,ltT,ltF,leT,hs1,hi,ho,ha,st_ask,st_ansn,hcv]
  done
theorem wa_within (n lo hi:Int) (H:Heap):zA8 cfg0 zA0 false 33 [I n,I lo,I hi] H none=some ⟨.ret (.bool (wi n lo hi)),H,none⟩:=by
 refine (zA1 fn33 rfl (by simp [Tryz.f33])).trans ?_
 by_cases h1:lo≤n<;>simp -implicitDefEqProofs only [go_sem,h1,wi]
def spW (lo hi low high wide:Int):Bool:=decide (low≤lo)&&(decide (lo≤hi)&&(decide (hi≤high)&&decide (hi-lo≤wide)))
theorem wa_isSpan (lo hi low high wide:Int) (hl : -100000≤low∧low≤100000) (hh : -100000≤high∧high≤100000) (H:Heap):zA8 cfg0 zA0 false 65 [.agg [I lo,I hi],I low,I high,I wide] H none=some ⟨.ret (.bool (spW lo hi low high wide)),H,none⟩:=by
 simp only [spW]
 by_cases h1:low≤lo
 ·by_cases h2:lo≤hi
  ·by_cases h3:hi≤high
   ·skip
    refine (zA1 fn65 rfl (by simp [Tryz.f65])).trans ?_
    simp -implicitDefEqProofs (maxSteps:=1000000) (disch:=first|rfl|omega|assumption) only [go_sem,ltT,ltF,leT,h1,h2,h3,decide_true,Bool.true_and]
    done
   ·skip
    refine (zA1 fn65 rfl (by simp [Tryz.f65])).trans ?_
    simp -implicitDefEqProofs (maxSteps:=1000000) (disch:=first|rfl|omega|assumption) only [go_sem,ltT,ltF,leT,h1,h2,h3,decide_true,Bool.true_and,decide_false,Bool.false_and]
    done
  ·skip
   refine (zA1 fn65 rfl (by simp [Tryz.f65])).trans ?_
   simp -implicitDefEqProofs (maxSteps:=1000000) (disch:=first|rfl|omega|assumption) only [go_sem,ltT,ltF,leT,h1,h2,decide_true,Bool.true_and,decide_false,Bool.false_and]
   done
 ·skip
  refine (zA1 fn65 rfl (by simp [Tryz.f65])).trans ?_
  simp -implicitDefEqProofs (maxSteps:=1000000) (disch:=first|rfl|omega|assumption) only [go_sem,ltT,ltF,leT,h1,decide_false,Bool.false_and]
  done
theorem wa_ask (b:Bool) (e:Int) (H:Heap):zA8 cfg0 zA0 false 64 [.bool b,I e] H none=some ⟨if b then .ret (.tup []) else .pan (.iface 111 (I e)),H,none⟩:=by
 refine (zA1 fn64 rfl (by simp [Tryz.f64])).trans ?_
 cases b
 ·skip
  simp -implicitDefEqProofs (maxSteps:=1000000) (disch:=first|rfl|omega|assumption) only [go_sem,ltT,ltF,leT]
  done
 ·skip
  simp -implicitDefEqProofs (maxSteps:=1000000) (disch:=first|rfl|omega|assumption) only [go_sem,ltT,ltF,leT]
  done
theorem wa_ansn (l:Nat) (H:Heap):zA8 cfg0 zA0 true 31 [.ptr l 0] H none=some ⟨.ret (.tup []),H,none⟩:=by
 refine (zA1 fn31 rfl (by simp [Tryz.f31])).trans ?_
 simp -implicitDefEqProofs only [go_sem]
theorem mul_bd {a b:Int} (ha:0≤a∧a≤1000) (hb:0≤b∧b≤1000):0≤a*b∧a*b≤1000000:=by
 refine ⟨Int.mul_nonneg ha.1 hb.1,?_⟩
 have:=Int.mul_le_mul ha.2 hb.2 hb.1 (by omega)
 omega
theorem mul_bd3 {a b c:Int} (ha:0≤a∧a≤1000) (hb:0≤b∧b≤1000) (hc : -1000≤c∧c≤1000) : -1000000000≤a*b*c∧a*b*c≤1000000000:=by
 obtain ⟨h1,h2⟩:=mul_bd ha hb
 generalize a*b=m at h1 h2
 rcases Int.le_total 0 c with h | h
 ·have e1:=Int.mul_nonneg h1 h
  have e2:=Int.mul_le_mul h2 hc.2 h (by omega)
  omega
 ·have e1:=Int.mul_nonneg h1 (show 0 ≤ -c by omega)
  have e2:=Int.mul_le_mul h2 (show -c≤1000 by omega) (by omega) (by omega)
  rw [Int.mul_neg] at e1 e2
  omega
theorem wa_product {a b c:Int} (ha:0≤a∧a≤1000) (hb:0≤b∧b≤1000) (hc : -1000≤c∧c≤1000) (H:Heap):zA8 cfg0 zA0 false 67 [.sl true [I a,I b,I c]] H none=some ⟨.ret (I (a*b*c)),H,none⟩:=by
 have w0:IntKind.i64.wrap a=a:=w64 (by omega) (by omega)
 have w1:IntKind.i64.wrap (a*b)=a*b:=by have:=mul_bd ha hb;exact w64 (by omega) (by omega)
 have w2:IntKind.i64.wrap (a*b*c)=a*b*c:=by have:=mul_bd3 ha hb hc;exact w64 (by omega) (by omega)
 obtain ⟨a1,a2,a3,a4⟩:=(slI (H:=H) true [a,b,c]).fI
 simp only [List.map_cons,List.map_nil,List.length_cons,List.length_nil,Nat.zero_add,Nat.reduceAdd,Int.cast_ofNat_Int] at a1 a2 a3 a4
 refine (zA1 fn67 rfl (by simp [Tryz.f67])).trans ?_
 simp -implicitDefEqProofs (maxSteps:=1000000) (disch:=first|rfl|omega|assumption) only [go_sem,ltT,ltF,leT]
 rw [zA2]
 simp -implicitDefEqProofs (maxSteps:=1000000) (disch:=first|rfl|omega|assumption) only [go_sem,ltT,ltF,leT,a1,a2,a3,a4,w0,w1,w2,Int.one_mul]
 rw [zA2]
 simp -implicitDefEqProofs (maxSteps:=1000000) (disch:=first|rfl|omega|assumption) only [go_sem,ltT,ltF,leT,a1,a2,a3,a4,w0,w1,w2,Int.one_mul]
 rw [zA2]
 simp -implicitDefEqProofs (maxSteps:=1000000) (disch:=first|rfl|omega|assumption) only [go_sem,ltT,ltF,leT,a1,a2,a3,a4,w0,w1,w2,Int.one_mul]
 rw [zA2]
 simp -implicitDefEqProofs (maxSteps:=1000000) (disch:=first|rfl|omega|assumption) only [go_sem,ltT,ltF,leT,a1,a2,a3,a4,w0,w1,w2,Int.one_mul]
 done
theorem td10 (x:Int):x.tdiv 10=(if 0≤x then x/10 else -((-x)/10))∧x.tmod 10=x-10*x.tdiv 10:=by
 refine ⟨?_,Int.tmod_def x 10⟩
 split
 ·rename_i h
  exact Int.tdiv_eq_ediv_of_nonneg h
 ·rename_i h
  have:x.tdiv 10 = -((-x).tdiv 10):=by rw [Int.neg_tdiv,Int.neg_neg]
  rw [this,Int.tdiv_eq_ediv_of_nonneg (by omega)]
def grW (mark coeff t:Int):Int:=if (mark*coeff*t).tmod 10<0 then (mark*coeff*t).tdiv 10-1 else (mark*coeff*t).tdiv 10
theorem grW_bd {a b c:Int} (ha:0≤a∧a≤1000) (hb:0≤b∧b≤1000) (hc : -1000≤c∧c≤1000) : -100000001≤grW a b c∧grW a b c≤100000000:=by
 have h:=mul_bd3 ha hb hc
 simp only [grW]
 generalize a*b*c=m at h
 obtain ⟨d1,d2⟩:=td10 m
 generalize m.tdiv 10=q at *
 generalize m.tmod 10=r at *
 split at d1<;>split<;>omega
theorem grW_div (a b c:Int):grW a b c=(a*b*c)/10:=by
 simp only [grW]
 generalize a*b*c=m
 obtain ⟨d1,d2⟩:=td10 m
 generalize m.tdiv 10=q at *
 generalize m.tmod 10=r at *
 split at d1<;>split<;>omega
theorem wa_grows {m c t n:Int} (hm:0≤m∧m≤1000) (hc:0≤c∧c≤1000) (ht : -1000≤t∧t≤1000) (H:Heap):zA8 cfg0 zA0 false 35 [.agg [I n,I c],I m,I t] H none=some ⟨.ret (I (grW m c t)),H,none⟩:=by
 have hp:=fun G=>wa_product hm hc ht G
 have hb:=mul_bd3 hm hc ht
 simp only [grW]
 generalize m*c*t=x at hp hb
 have hq : -1000000000≤x.tdiv 10∧x.tdiv 10≤1000000000 ∧ -10≤x.tmod 10∧x.tmod 10≤10:=by
  obtain ⟨d1,d2⟩:=td10 x
  generalize x.tdiv 10=q at *
  generalize x.tmod 10=r at *
  split at d1<;>omega
 have q1:IntKind.i64.wrap (x.tdiv 10)=x.tdiv 10:=w64 (by omega) (by omega)
 have q2:IntKind.i64.wrap (x.tmod 10)=x.tmod 10:=w64 (by omega) (by omega)
 have q3:IntKind.i64.wrap (x.tdiv 10-1)=x.tdiv 10-1:=w64 (by omega) (by omega)
 by_cases h1:x.tmod 10<0
 ·skip
  refine (zA1 fn35 rfl (by simp [Tryz.f35])).trans ?_
  simp -implicitDefEqProofs (maxSteps:=1000000) (disch:=first|rfl|omega|assumption) only [go_sem,ltT,ltF,leT,hp,q1,q2,q3,h1]
  done
 ·skip
  refine (zA1 fn35 rfl (by simp [Tryz.f35])).trans ?_
  simp -implicitDefEqProofs (maxSteps:=1000000) (disch:=first|rfl|omega|assumption) only [go_sem,ltT,ltF,leT,hp,q1,q2,q3,h1]
  done
theorem wa_shows {m c t n:Int} (hm:0≤m∧m≤1000) (hc:0≤c∧c≤1000) (ht : -1000≤t∧t≤1000) (hn : -100000≤n∧n≤100000) (H:Heap):zA8 cfg0 zA0 false 46 [.agg [I n,I c],I m,I t] H none=some ⟨.ret (I (n+grW m c t)),H,none⟩:=by
 have hg:=fun G=>wa_grows (n:=n) hm hc ht G
 have hb:=grW_bd hm hc ht
 generalize grW m c t=x at hg hb
 have q3:IntKind.i64.wrap (n+x)=n+x:=w64 (by omega) (by omega)
 refine (zA1 fn46 rfl (by simp [Tryz.f46])).trans ?_
 simp -implicitDefEqProofs (maxSteps:=1000000) (disch:=first|rfl|omega|assumption) only [go_sem,ltT,ltF,leT]
 rw [zAg];rotate_left;kernel_rfl
 simp -implicitDefEqProofs (maxSteps:=1000000) (disch:=first|rfl|omega|assumption) only [go_sem,ltT,ltF,leT,hg,q3]
 done
def anyK (P:Int→Bool) (lo:Int):Nat→Nat→Bool
 | _,0=>false
 | j,k+1=>P (lo+j)||anyK P lo (j+1) k
theorem anyK_iff {P:Int→Bool} {lo:Int}:∀ (j k:Nat),anyK P lo j k=true↔∃ t:Int,lo+j≤t∧t<lo+j+k∧P t=true
 | j,0=>by simp [anyK];intro t h1 h2;omega
 | j,k+1=>by
  have ih:=anyK_iff (P:=P) (lo:=lo) (j+1) k
  simp only [anyK,Bool.or_eq_true,ih]
  constructor
  ·rintro (h | ⟨t,h1,h2,h3⟩)
   ·exact ⟨lo+j,by omega,by omega,h⟩
   ·exact ⟨t,by omega,by omega,h3⟩
  ·rintro ⟨t,h1,h2,h3⟩
   by_cases e:t=lo+j
   ·subst e;exact .inl h3
   ·exact .inr ⟨t,by omega,by omega,h3⟩
def anyN (lo hi:Int):Nat:=(hi+1-lo).toNat
theorem aw_loop {y l:Nat} {lo hi:Int} (hb:H[l]? = some (.box (.agg [I lo,I hi]))) (hlo : -1000≤lo∧lo≤hi∧hi≤1000) (P:Int→Bool) {H':Heap} (hl:H'.length=H.length) (hno:∀ b t,lo≤t→t≤hi→P t=false→zAw cfg0 zA0 b false (.yield y) [I t] [] H none=some ⟨.ret (.bool true),H,none⟩) (hyes:∀ b t,lo≤t→t≤hi→P t=true→zAw cfg0 zA0 b false (.yield y) [I t] [] H none=some ⟨.ret (.bool false),H',none⟩) :
  ∀ (q j:Nat),j+q=anyN lo hi→∀ E:Env,E.get 0=.func (.yield y) [] []→E.get 1=.ptr l 0→E.get 3=I (lo+j) →
  Option.map (zAi H.length) (zAh cfg0 zA0 ⟨116,none,false,H.length⟩ (zA7 Tryz.f116 1) ⟨E,[],H,none⟩)=some ⟨.ret (.tup []),if anyK P lo j (anyN lo hi-j) then H' else H,none⟩:=by
 intro q
 have hn:((anyN lo hi:Nat):Int)=hi+1-lo:=by simp only [anyN];omega
 have htk:H'.take H.length=H':=List.take_of_length_le (by omega)
 induction q with
 | zero =>
  intro j hj  E g0 g1 g3
  have hk':¬ (j:Int)<((anyN lo hi:Nat):Int):=by omega
  have ej:anyN lo hi-j=0:=by omega
  rw [ej]
  simp only [anyK,Bool.false_eq_true,if_false]
  have hj1:¬ lo+(j:Int)≤hi:=by omega
  simp only [zAb,zA4,zA7,zAa,zA3,↓reduceIte,Option.some.injEq,Nat.reduceEqDiff,reduceCtorEq,Tryz.f116]
  rw [zA2]
  simp -implicitDefEqProofs (maxSteps:=1000000) (disch:=first|rfl|omega|assumption) only [go_sem,g0,g1,g3,ltT,ltF,leT,hk',hb,hj1]
  done
 | succ q ih =>
  intro j hj  E g0 g1 g3
  have hk':(j:Int)<((anyN lo hi:Nat):Int):=by omega
  have hk2:j<anyN lo hi:=by omega
  have ej:anyN lo hi-j=(anyN lo hi-(j+1))+1:=by omega
  rw [ej]
  simp only [anyK]
  have hj1:lo+(j:Int)≤hi:=by omega
  have hw:IntKind.i64.wrap (lo+(j:Int)+1)=lo+((j+1:Nat):Int):=by rw [w64 (by omega) (by omega)];omega
  rcases Bool.eq_false_or_eq_true (P (lo+(j:Int))) with hP | hP
  rotate_left
  ·have hc:=fun b=>hno b (lo+j) (by omega) hj1 hP
   have key:=ih (j+1) (by omega)
   simp only [hP,Bool.false_or]
   simp only [zAb,zA4,zA7,zAa,zA3,↓reduceIte,Option.some.injEq,Nat.reduceEqDiff,reduceCtorEq,Tryz.f116]
   rw [zA2]
   simp -implicitDefEqProofs (maxSteps:=1000000) (disch:=first|rfl|omega|assumption) only [go_sem,g0,g1,g3,ltT,ltF,leT,hk',hb,hj1,hc,hw]
   exact key _ (by exact g0) (by exact g1) (by rfl)
  ·have hc:=fun b=>hyes b (lo+j) (by omega) hj1 hP
   simp only [hP,Bool.true_or,if_true]
   simp only [zAb,zA4,zA7,zAa,zA3,↓reduceIte,Option.some.injEq,Nat.reduceEqDiff,reduceCtorEq,Tryz.f116]
   rw [zA2]
   simp -implicitDefEqProofs (maxSteps:=1000000) (disch:=first|rfl|omega|assumption) only [go_sem,g0,g1,g3,ltT,ltF,leT,hk',hb,hj1,hc,htk]
   done
theorem aw_it {y l:Nat} {lo hi:Int} (hb:H[l]? = some (.box (.agg [I lo,I hi]))) (hlo : -1000≤lo∧lo≤hi∧hi≤1000) (P:Int→Bool) {H':Heap} (hl:H'.length=H.length) (hno:∀ b t,lo≤t→t≤hi→P t=false→zAw cfg0 zA0 b false (.yield y) [I t] [] H none=some ⟨.ret (.bool true),H,none⟩) (hyes:∀ b t,lo≤t→t≤hi→P t=true→zAw cfg0 zA0 b false (.yield y) [I t] [] H none=some ⟨.ret (.bool false),H',none⟩) :
  zA8 cfg0 zA0 false 116 [.func (.yield y) [] [],.ptr l 0] H none=some ⟨.ret (.tup []),if anyK P lo 0 (anyN lo hi) then H' else H,none⟩:=by
 have key:=aw_loop hb hlo P hl hno hyes (anyN lo hi) 0 (by omega)
 simp only [Nat.sub_zero] at key
 refine (zA1 fn116 rfl (by simp [Tryz.f116])).trans ?_
 simp -implicitDefEqProofs (maxSteps:=1000000) (disch:=first|rfl|omega|assumption) only [go_sem,ltT,ltF,leT,hb]
 exact key _ (by rfl) (by rfl) (by simp [Env.get])
theorem wa_any (w1 w2 m:Int) (p:AV) (hp:p=.agg [I 0,I 0]∨∃ a b,p=.agg [I a,I b]) (H:Heap):zA8 cfg0 zA0 false 115 [.agg [I w1,I w2],I m,p] H none=some ⟨.ret (.func (.func 116) [] [.ptr H.length 0]),H++[.box (.agg [I w1,I w2]),.box p],none⟩:=by
 rcases hp with rfl | ⟨a,b,rfl⟩
 ·skip
  refine (zA1 fn115 rfl (by simp [Tryz.f115])).trans ?_
  simp -implicitDefEqProofs (maxSteps:=1000000) (disch:=first|rfl|omega|assumption) only [go_sem,ltT,ltF,leT]
  done
 ·skip
  refine (zA1 fn115 rfl (by simp [Tryz.f115])).trans ?_
  simp -implicitDefEqProofs (maxSteps:=1000000) (disch:=first|rfl|omega|assumption) only [go_sem,ltT,ltF,leT]
  done
structure Rd where
 w1:Int
 w2:Int
 s1:Int
 s2:Int
def rdA (r:Rd):AV:=.agg [I r.w1,I r.w2,I r.s1,I r.s2]
def Rd.Ok (r:Rd):Prop:=(-100≤r.w1∧r.w1≤r.w2∧r.w2≤100)∧(-30000≤r.s1∧r.s1≤r.s2∧r.s2≤30000)
def shB (m n c:Int) (r:Rd) (t:Int):Bool:=wi (n+grW m c t) r.s1 r.s2
def canB (m n c:Int) (r:Rd):Bool:=anyK (shB m n c r) r.w1 0 (anyN r.w1 r.w2)
theorem wa_rd (r:Rd) (m a b:Int) (H:Heap):zA8 cfg0 zA0 false 117 [rdA r,I m,.agg [I a,I b]] H none=some ⟨.ret (.func (.func 118) [] [.ptr H.length 0,.ptr (H.length+1) 0,.ptr (H.length+2) 0]),H++[.box (rdA r),.box (I m),.box (.agg [I a,I b])],none⟩:=by
 simp only [rdA]
 refine (zA1 fn117 rfl (by simp [Tryz.f117])).trans ?_
 simp -implicitDefEqProofs (maxSteps:=1000000) (disch:=first|rfl|omega|assumption) only [go_sem,ltT,ltF,leT]
 done
theorem rw_it {m n c:Int} {r:Rd} (hm:0≤m∧m≤1000) (hc:0≤c∧c≤1000) (hn : -100000≤n∧n≤100000) (hr:r.Ok) {H2:Heap} (hl:H2.length=H.length) {y br bm bp:Nat} (h1:H[br]? = some (.box (rdA r))) (h2:H[bm]? = some (.box (I m))) (h3:H[bp]? = some (.box (.agg [I n,I c])))
  (hy:∀ b t G,zAw cfg0 zA0 b false (.yield y) [I t] [] (H++G) none=some ⟨.ret (.bool false),H2++G,none⟩) (hyl:y<H.length) :
  zA8 cfg0 zA0 false 118 [.func (.yield y) [] [],.ptr br 0,.ptr bm 0,.ptr bp 0] H none=some ⟨.ret (.tup []),if canB m n c r then H2 else H,none⟩:=by
 obtain ⟨w1,w2,s1,s2⟩:=r
 obtain ⟨⟨r1,r2,r3⟩,r4,r5,r6⟩:=hr
 simp only at r1 r2 r3 r4 r5 r6
 simp only [rdA] at h1
 have l1:=(List.getElem?_eq_some_iff.1 h1).1
 have l2:=(List.getElem?_eq_some_iff.1 h2).1
 have l3:=(List.getElem?_eq_some_iff.1 h3).1
 have hg2:∀ (l:Heap) (k:Nat),(H2++l)[H.length+k]? = l[k]? := fun l k=>by rw [List.getElem?_append_right (by omega),hl,Nat.add_sub_cancel_left]
 have hs2:∀ (l:Heap) (k:Nat) (x:AO),(H2++l).set (H.length+k) x=H2++l.set k x:=fun l k x=>by rw [List.set_append_right _ _ (by omega),hl,Nat.add_sub_cancel_left]
 have ht2:∀ l:Heap,(H2++l).take H.length=H2:=fun l=>by rw [← hl];exact List.take_left' rfl
 have ht5:∀ a b c d e:AO,(H2++[a,b,c,d,e]).take (H.length+5)=H2++[a,b,c,d,e]:=fun a b c d e=>List.take_of_length_le (by simp [hl])
 have hany:=fun G:Heap=>wa_any w1 w2 m (.agg [I n,I c]) (.inr ⟨n,c,rfl⟩) G
 obtain ⟨e,he⟩:∃ e:Env,e=[(10,.func (.func 116) [] [.ptr (H.length+1) 0]),(9,.agg [I n,I c]),(8,I m),(7,.agg [I w1,I w2]),(6,.ptr br 0),(4,.ptr H.length 0),(0,.func (.yield y) [] []),(1,.ptr br 0),(2,.ptr bm 0),(3,.ptr bp 0)]:=⟨_,rfl⟩
 have e1:e.get 1=.ptr br 0:=by rw [he];rfl
 have e2:e.get 2=.ptr bm 0:=by rw [he];rfl
 have e3:e.get 3=.ptr bp 0:=by rw [he];rfl
 have e4:e.get 4=.ptr H.length 0:=by rw [he];rfl
 have e10:e.get 10=.func (.func 116) [] [.ptr (H.length+1) 0]:=by rw [he];rfl
 have hsh:=fun (t:Int) (G:Heap) (ht : -1000≤t∧t≤1000)=>wa_shows (n:=n) hm hc ht hn G
 have hit:=aw_it (H:=H++[.box (.func (.yield y) [] []),.box (.agg [I w1,I w2]),.box (.agg [I n,I c]),.dfr,.loop (zAq Tryz.f118 118 0 e (H.length+3))]) (y:=H.length+4) (l:=H.length+1) (lo:=w1) (hi:=w2) (by simp) (by omega) (shB m n c ⟨w1,w2,s1,s2⟩)
  (H':=H2++[.box (.func (.yield y) [] []),.box (.agg [I w1,I w2]),.box (.agg [I n,I c]),.dfr,.loop { zAq Tryz.f118 118 0 e (H.length+3) with state:=.done,pending:=some .ret }]) (by simp [hl])
  (fun b t t1 t2 hP=>by
   have hs:=fun G=>hsh t G (by omega)
   simp only [shB] at hP
   generalize n+grW m c t=x at hs hP
   have hwi:=fun G=>wa_within x s1 s2 G
   rw [hP] at hwi
   simp only [zAq,zAo,List.nil_append,List.append_nil,List.cons_append,List.getElem?_cons_zero,List.getElem?_cons_succ,Tryz.f118]
   simp -implicitDefEqProofs (maxSteps:=1000000) (disch:=first|rfl|omega|assumption) only [go_sem,ltT,ltF,leT,callV_yield]
   rw [zAg];rotate_left;kernel_rfl
   simp -implicitDefEqProofs (maxSteps:=1000000) (disch:=first|rfl|omega|assumption) only [go_sem,ltT,ltF,leT,e1,e2,e3,zA6 l1,zA6 l2,zA6 l3,h1,h2,h3,hs,hwi]
   done)
  (fun b t t1 t2 hP=>by
   have hs:=fun G=>hsh t G (by omega)
   simp only [shB] at hP
   generalize n+grW m c t=x at hs hP
   have hwi:=fun G=>wa_within x s1 s2 G
   rw [hP] at hwi
   simp only [zAq,zAo,List.nil_append,List.append_nil,List.cons_append,List.getElem?_cons_zero,List.getElem?_cons_succ,Tryz.f118]
   simp -implicitDefEqProofs (maxSteps:=1000000) (disch:=first|rfl|omega|assumption) only [go_sem,ltT,ltF,leT,callV_yield]
   rw [zAg];rotate_left;kernel_rfl
   simp -implicitDefEqProofs (maxSteps:=1000000) (disch:=first|rfl|omega|assumption) only [go_sem,ltT,ltF,leT,e1,e2,e3,e4,zA6 l1,zA6 l2,zA6 l3,h1,h2,h3,hs,hwi,hy,hg2,hs2,ht5]
   done)
 simp only [zAq,zAo,List.nil_append,List.append_nil,List.cons_append,List.getElem?_cons_zero,List.getElem?_cons_succ,Tryz.f118] at hit
 simp only [canB]
 rcases Bool.eq_false_or_eq_true (anyK (shB m n c ⟨w1,w2,s1,s2⟩) w1 0 (anyN w1 w2)) with hA | hA<;>simp only [hA,Bool.false_eq_true,if_false,if_true] at hit ⊢
 ·skip
  refine (zA1 fn118 rfl (by simp [Tryz.f118])).trans ?_
  simp -implicitDefEqProofs (maxSteps:=1000000) (disch:=first|rfl|omega|assumption) only [go_sem,ltT,ltF,leT,zA6 l1,zA6 l2,zA6 l3,h1,h2,h3,hany,← he,e10,hit,hg2,hs2,ht2]
  done
 ·skip
  refine (zA1 fn118 rfl (by simp [Tryz.f118])).trans ?_
  simp -implicitDefEqProofs (maxSteps:=1000000) (disch:=first|rfl|omega|assumption) only [go_sem,ltT,ltF,leT,zA6 l1,zA6 l2,zA6 l3,h1,h2,h3,hany,← he,e10,hit,hg2,hs2,ht2]
  done
end Go.Ab
