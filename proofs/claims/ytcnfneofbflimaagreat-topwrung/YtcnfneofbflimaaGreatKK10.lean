/- Sets in order; Most, Polish. -/
import Derived.Test.YtcnfneofbflimaaGreatKK9
namespace Go.Ab
open Go.Proofs
set_option linter.unusedSimpArgs false
set_option linter.unusedVariables false
set_option maxRecDepth 100000
set_option maxHeartbeats 2000000
variable {H:Heap}
def allS (n:Nat):List Nat:=List.range (2^n)
theorem w_cmp:Cmp (.func 72) [] popK 1024 where
 call b0 x y G hx hy:=by
  have h1:=fun G:Heap=>ones (H:=G) hx
  have h2:=fun G:Heap=>ones (H:=G) hy
  have b1:=popF_le 20 x
  have b2:=popF_le 20 y
  have e:IntKind.i64.wrap ((pop x:Int)-(pop y:Int))=(pop x:Int)-(pop y:Int):=w64 (by simp only [pop];omega) (by simp only [pop];omega)
  rw [callVL_func]
  change zA9 cfg0 zA2 false 72 [U x,U y] G none=_
  simp only [popK]
  refine (zA1 fn72 rfl (by simp [Tryz.f72])).trans ?_
  simp -implicitDefEqProofs (maxSteps:=1000000) (disch:=first|rfl|omega|assumption) only [go_sem,h1,h2,e]
 bd x:=by have:=popF_le 20 x;simp only [popK,pop];omega
def popD (n:Nat):Int := -(pop n:Int)
theorem allS_len (n:Nat):(allS n).length=2^n:=by simp [allS]
theorem allS_small {n:Nat} (h:n≤10):Small 1024 (allS n):=by
 intro k hk
 rw [allS_len] at hk
 have:(2:Nat)^n≤2^10:=Nat.pow_le_pow_right (by omega) h
 have e:(allS n).getD k 0=k:=by simp [allS,hk]
 rw [e];omega
theorem small_stab {key:Nat→Int} {B:Nat} {n:Nat} {L:List Nat} {rk:Nat→Nat} (hl:L.length=n) (hB:Small B L) (hu:∀ k l,k<l→l<n→rk (gt L k)<rk (gt L l)):Small B (stab key n L):=by
 obtain ⟨_,h2⟩:=stab_srt (key:=key) (rk:=rk) hl hu
 intro k hk
 rw [stab_len,hl] at hk
 obtain ⟨j,j1,j2,e⟩:=h2.fwd k (by omega) hk
 show gt (stab key n L) k<B
 rw [e]
 exact hB j (by omega)
theorem sets_loop (n:Nat) (hn:n≤10) (m:Nat) (hm:m=2^n) (hm2:m≤1024) :
  ∀ (q j:Nat),j+q=m→∀ (L:List Nat),L=List.range j→∀ E:Env,E.get 2=.gsl H.length j→E.get 5=U m→E.get 6=U j →
  Option.map (finK true H.length) (zAe cfg0 zA2 ⟨42,none,false,H.length⟩ (zA5 Tryz.f42 2) ⟨E,[],H++[.grow 1 (L.map U)],none⟩)=some ⟨.ret (.gsl H.length m),H++[.grow 1 ((stab popK m (allS n)).map U)],none⟩:=by
 intro q
 have hp:H.length<(H++[AO.grow 1 ((allS n).map U)]).length:=by simp
 have hSo:=so_sort (H:=H++[AO.grow 1 ((allS n).map U)]) w_cmp hp (n:=m) (by omega) (L:=allS n) (by rw [allS_len,hm]) (allS_small hn)
 have e1:∀ M:List Nat,GH (H++[AO.grow 1 ((allS n).map U)]) H.length M=H++[AO.grow 1 (M.map U)]:=fun M=>by simp [GH]
 rw [e1,e1] at hSo
 induction q with
 | zero =>
  intro j hj L hL E g2 g5 g6
  have hk':¬ (j:Int)<((m:Nat):Int):=by omega
  have ej:j=m:=by omega
  subst ej
  subst hL
  have ea:List.range j=allS n:=by rw [hm];rfl
  rw [ea]
  simp only [zA6,zA4,zA5,zA7,zA3,↓reduceIte,Option.some.injEq,Nat.reduceEqDiff,reduceCtorEq,Tryz.f42]
  rw [zA0]
  simp -implicitDefEqProofs (maxSteps:=1000000) (disch:=first|rfl|omega|assumption) only [go_sem,g2,g5,g6,ltT,ltF,leT,hk',hSo]
  done
 | succ q ih =>
  intro j hj L hL E g2 g5 g6
  have hk':(j:Int)<((m:Nat):Int):=by omega
  have hk2:j<m:=by omega
  subst hL
  have hw:IntKind.u64.wrap ((j:Int)+1)=((j+1:Nat):Int):=wrapU (n:=j+1) (by omega)
  have la:((List.range j).map U).length=j:=by simp
  have hadd:addElem (H++[.grow 1 ((List.range j).map U)]) 1 false (.gsl H.length j) [U j]=some (.gsl H.length (j+1),H++[.grow 1 ((List.range (j+1)).map U)]):=by
   rw [add_gsl (xs:=(List.range j).map U) (by rw [get_at];rfl) la rfl rfl (by simp;omega),set_at,List.range_succ,List.map_append]
   rfl
  simp only [zA6,zA4,zA5,zA7,zA3,↓reduceIte,Option.some.injEq,Nat.reduceEqDiff,reduceCtorEq,Tryz.f42]
  rw [zA0]
  simp -implicitDefEqProofs (maxSteps:=1000000) (disch:=first|rfl|omega|assumption) only [go_sem,g2,g5,g6,ltT,ltF,leT,hk',hadd,hw]
  exact ih (j+1) (by omega) (List.range j++[j]) List.range_succ.symm _ (by rfl) (by exact g5) (by rfl)
theorem gt_all {n k:Nat} (h:k<2^n):gt (allS n) k=k:=by simp [gt,allS,h]
theorem allS_up (n:Nat):∀ k l,k<l→l<2^n→id (gt (allS n) k)<id (gt (allS n) l):=fun k l h1 h2=>by
 rw [gt_all h2,gt_all (Nat.lt_trans h1 h2)]
 exact h1
def setL (n:Nat):List Nat:=stab popK (2^n) (allS n)
theorem setL_len (n:Nat):(setL n).length=2^n:=by rw [setL,stab_len,allS_len]
theorem setL_srt (n:Nat):Srt popK id (gt (setL n)) 0 (2^n)∧Ib (gt (allS n)) (gt (setL n)) 0 (2^n):=stab_srt (allS_len n) (allS_up n)
theorem setL_lt (n:Nat):Small (2^n) (setL n):=small_stab (rk:=id) (allS_len n) (fun k hk=>by
  rw [allS_len] at hk
  show gt (allS n) k<2^n
  rw [gt_all hk];exact hk) (allS_up n)
theorem setL_has {n s:Nat} (h:s<2^n):∃ k,k<2^n∧gt (setL n) k=s:=by
 obtain ⟨k,h1,h2,h3⟩:=(setL_srt n).2.bwd s (by omega) h
 exact ⟨k,h2,by rw [← h3,gt_all h]⟩
def rkP (x:Nat):Nat:=pop x*1024+x
theorem setL_up {n:Nat} (hn:n≤10):∀ k l,k<l→l<2^n→rkP (gt (setL n) k)<rkP (gt (setL n) l):=fun k l h1 h2=>by
 have h3:(2:Nat)^n≤2^10:=Nat.pow_le_pow_right (by omega) hn
 have a:=setL_lt n k (by rw [setL_len];omega)
 have b:=setL_lt n l (by rw [setL_len];omega)
 have c:=(setL_srt n).1 k l (by omega) h1 h2
 simp only [lx,popK,id] at c
 simp only [rkP,gt] at *
 omega
def mostL (n:Nat):List Nat:=stab popD (2^n) (setL n)
theorem wr_sets (n:Nat) (hn:n≤10) (H:Heap):zA9 cfg0 zA2 false 42 [I n] H none=some ⟨.ret (.gsl H.length (2^n)),H++[.grow 1 ((setL n).map U)],none⟩:=by
 have h2:(2:Nat)^n≤2^10:=Nat.pow_le_pow_right (by omega) hn
 have h1:=sets_loop (H:=H) n hn (2^n) rfl (by omega) (2^n) 0 (by omega) [] rfl
 have e1:=shlU (k:=n) (by omega)
 have z:¬ (n:Int)<0:=by omega
 refine (callFL_keep fn42 rfl (by simp [Tryz.f42])).trans ?_
 simp -implicitDefEqProofs (maxSteps:=1000000) (disch:=first|rfl|omega|assumption) only [go_sem,e1,z]
 exact h1 _ (by rfl) (by rfl) (by rfl)
def Wg.canS (w:Wg) (s:Nat):Bool:=decide (0<(w.tal false ⟨s,pc0,false⟩).1)
def Wg.mostS (w:Wg):Option Nat:=firstF w.canS (mostL w.bs.length) 0 (mostL w.bs.length).length
def Wg.most (w:Wg):Int×Int×Int:=if w.valid then ((pop (w.mostS.getD 0):Nat),(w.mostS.getD 0:Nat),0) else (0,0,1)
theorem firstF_lt {b:Nat→Bool} {L:List Nat} {B:Nat} (hB:Small B L) {x:Nat} (h:firstF b L 0 L.length=some x):x<B:=by
 obtain ⟨i,h1,h2,h3,_⟩:=(findF_some _ _ _ _).1 h
 split at h3
 ·cases h3
  exact hB i (by omega)
 ·cases h3
theorem full_pos {w:Wg} (ho:w.Ok):2^w.bs.length-1≠0:=by
 have h1:=ho.n.1
 simp only [Wg.n] at h1
 have:2^1≤2^w.bs.length:=Nat.pow_le_pow_right (by omega) h1
 omega
def minF (f:List Pc→Int) (L:List (List Pc)) (m:List Pc) (j q:Nat):List Pc:=foldF (fun m i=>if f (L.getD i [])<f m then L.getD i [] else m) m j q
def z0 (b:Bk):Bk:=⟨b.lo,b.hi,⟨b.f0.lo,b.f0.hi,0⟩,b.f1⟩
def z1 (b:Bk):Bk:=⟨b.lo,b.hi,b.f0,⟨b.f1.lo,b.f1.hi,0⟩⟩
def polB (s i:Nat) (b:Bk):Bk:=if s.testBit (2*i+1) then z1 (if s.testBit (2*i) then z0 b else b) else if s.testBit (2*i) then z0 b else b
def polS (s:Nat) (L:List Bk) (i:Nat):List Bk:=L.set i (polB s i (L.getD i bk0))
def polL (s:Nat) (L:List Bk):List Bk:=foldF (polS s) L 0 L.length
theorem st_4 {n b:Nat} {o0 o1:AO} {z:Option Value} {M:List Bk} {j:Nat} (hM:M.length=n) (hj:j<n):evStore b (H++[o0,o1,.grow 8 (M.map Bk.av)]) ⟨.int .i64,1,8,z⟩ (elA (.gsl (H.length+2) n) (j:Int) 4) (.int .i64 0)=some (H++[o0,o1,.grow 8 ((M.set j (z0 (M.getD j bk0))).map Bk.av)]):=by
 subst hM
 have h1:(M.map Bk.av)[j]? = some (M.getD j bk0).av:=by simp [hj]
 have h2:(H++[o0,o1,.grow 8 (M.map Bk.av)])[H.length+2]? = some (.grow 8 (M.map Bk.av)):=by rw [zAi];rfl
 simp only [elA,Int.toNat_natCast,evStore,h2,List.length_map,h1,Bk.av]
 simp [AV.lt,zBc,zAb,AV.cells,AV.scalar,splice,AV.withCells,List.map_set,z0,set_at',Bk.av]
theorem st_7 {n b:Nat} {o0 o1:AO} {z:Option Value} {M:List Bk} {j:Nat} (hM:M.length=n) (hj:j<n):evStore b (H++[o0,o1,.grow 8 (M.map Bk.av)]) ⟨.int .i64,1,8,z⟩ (elA (.gsl (H.length+2) n) (j:Int) 7) (.int .i64 0)=some (H++[o0,o1,.grow 8 ((M.set j (z1 (M.getD j bk0))).map Bk.av)]):=by
 subst hM
 have h1:(M.map Bk.av)[j]? = some (M.getD j bk0).av:=by simp [hj]
 have h2:(H++[o0,o1,.grow 8 (M.map Bk.av)])[H.length+2]? = some (.grow 8 (M.map Bk.av)):=by rw [zAi];rfl
 simp only [elA,Int.toNat_natCast,evStore,h2,List.length_map,h1,Bk.av]
 simp [AV.lt,zBc,zAb,AV.cells,AV.scalar,splice,AV.withCells,List.map_set,z1,set_at',Bk.av]
theorem polS_len (s:Nat) (L:List Bk) (i:Nat):(polS s L i).length=L.length:=by simp [polS]
theorem set_self' (L:List Bk) (j:Nat):L.set j (L.getD j bk0)=L:=by
 apply List.ext_getElem?
 intro i
 rw [List.getElem?_set]
 by_cases h:j=i
 ·subst h
  by_cases h2:j<L.length
  ·simp [h2]
  ·simp [h2]
 ·simp [h]
theorem getD_set (L:List Bk) {j:Nat} (h:j<L.length) (x:Bk):(L.set j x).getD j bk0=x:=by simp [h]
theorem pol_loop {va vb:AV} (s1:vb.scalar=true) (s2:va.scalar=true) (tv:va.lt H.length=true) (hsv:∀ A:Heap,sealG A H.length va=va) (s:Nat) (hs:s<1024) (n:Nat) (hn:n≤5) (r:List Bk) :
  ∀ (q j:Nat),j+q=n→∀ (L:List Bk),L.length=n→foldF (polS s) L j q=r→∀ E:Env,E.get 1=U s→E.get 2=.ptr H.length 0→E.get 4=.ptr (H.length+1) 0→E.get 5=.gsl (H.length+2) n→E.get 17=I n→E.get 18=I j →
  Option.map (zAd H.length) (zAe cfg0 zA2 ⟨44,none,false,H.length⟩ (zA5 Tryz.f44 4) ⟨E,[],H++[.box (.agg [vb,va]),.box (.agg [.sl true [],.sl true []]),.grow 8 (L.map Bk.av)],none⟩)=some ⟨.ret (.agg [.sl false (r.map Bk.av),va]),H,none⟩:=by
 intro q
 skip
 induction q with
 | zero =>
  intro j hj L hL hr E g1 g2 g4 g5 g17 g18
  have hk':¬ (j:Int)<((n:Nat):Int):=by omega
  simp only [foldF] at hr
  subst hr
  have la:(L.map Bk.av).length=n:=by rw [List.length_map,hL]
  have t3:ltL H.length (L.map Bk.av)=true:=zAx (fun _=>rfl) L
  have t4:ltL 0 (L.map Bk.av)=true:=zAx (fun _=>rfl) L
  simp only [zA6,zA4,zA5,zA7,zA3,↓reduceIte,Option.some.injEq,Nat.reduceEqDiff,reduceCtorEq,Tryz.f44]
  rw [zA0]
  simp -implicitDefEqProofs (maxSteps:=1000000) (disch:=first|rfl|omega|assumption) only [go_sem,g1,g2,g4,g5,g17,g18,ltT,ltF,leT,hk',s1,s2,la,t3,t4,tv,hsv]
  done
 | succ q ih =>
  intro j hj L hL hr E g1 g2 g4 g5 g17 g18
  have hk':(j:Int)<((n:Nat):Int):=by omega
  have hk2:j<n:=by omega
  simp only [foldF] at hr
  have key:=ih (j+1) (by omega) (polS s L j) (by rw [polS_len];exact hL) hr
  have f1:=@SlOk.fF (H++[.box (.agg [vb,va]),.box (.agg [.sl true [],.sl true []]),.grow 8 (L.map Bk.av)]) Bk Bk.av bk0 8 (.gsl (H.length+2) n) L ⟨⟨by rw [zAi];rfl,by rw [List.length_map,hL]⟩,fun x hx=>by obtain ⟨i,_,rfl⟩:=List.mem_map.1 hx;rfl⟩
  obtain ⟨-,a2,-,-,a5⟩:=f1
  have f2:=@SlOk.fF (H++[.box (.agg [vb,va]),.box (.agg [.sl true [],.sl true []]),.grow 8 ((L.set j (z0 (L.getD j bk0))).map Bk.av)]) Bk Bk.av bk0 8 (.gsl (H.length+2) n) (L.set j (z0 (L.getD j bk0))) ⟨⟨by rw [zAi];rfl,by rw [List.length_map,List.length_set,hL]⟩,fun x hx=>by obtain ⟨i,_,rfl⟩:=List.mem_map.1 hx;rfl⟩
  obtain ⟨-,b2,-,-,b5⟩:=f2
  rw [hL] at a2
  rw [List.length_set,hL] at b2
  have h0:=shrN (s:=s) (j:=2*j) (by omega)
  have h1:=shrN (s:=s) (j:=2*j+1) (by omega)
  have k0:=bitU (s:=s) (j:=2*j) (by omega)
  have k1:=bitU (s:=s) (j:=2*j+1) (by omega)
  have m0:=and_one (s:=s) (j:=2*j)
  have m1:=and_one (s:=s) (j:=2*j+1)
  have x0:IntKind.i64.wrap (2*(j:Int))=((2*j:Nat):Int):=by rw [w64 (by omega) (by omega)];omega
  have x1:IntKind.i64.wrap (((2*j:Nat):Int)+0)=((2*j:Nat):Int):=by rw [w64 (by omega) (by omega)];omega
  have x2:IntKind.i64.wrap (((2*j:Nat):Int)+1)=((2*j+1:Nat):Int):=by rw [w64 (by omega) (by omega)];omega
  have z2:¬ ((2*j:Nat):Int)<0:=by omega
  have z3:¬ ((2*j+1:Nat):Int)<0:=by omega
  have hjn:j<n:=hk2
  have u1:=fun (o0 o1:AO) (b:Nat) (z:Option Value)=>@st_4 H n b o0 o1 z L j hL hjn
  have u2:=fun (o0 o1:AO) (b:Nat) (z:Option Value)=>@st_7 H n b o0 o1 z L j hL hjn
  have u3:=fun (o0 o1:AO) (b:Nat) (z:Option Value)=>@st_7 H n b o0 o1 z (L.set j (z0 (L.getD j bk0))) j (by rw [List.length_set];exact hL) hjn
  rw [getD_set L (by omega)] at u3
  rw [List.set_set] at u3
  have hself:=set_self' L j
  simp only [polS] at key
  generalize L.getD j bk0=bj at *
  cases c0:s.testBit (2*j)
  ·rw [c0] at m0
   cases c1:s.testBit (2*j+1)
   ·rw [c1] at m1
    have e:polB s j bj=bj:=by simp only [polB,c0,c1,if_true,Bool.false_eq_true,if_false]
    rw [e,hself] at key
    simp only [zA6,zA4,zA5,zA7,zA3,↓reduceIte,Option.some.injEq,Nat.reduceEqDiff,reduceCtorEq,Tryz.f44]
    rw [zA0]
    simp -implicitDefEqProofs (maxSteps:=1000000) (disch:=first|rfl|omega|assumption) only [go_sem,g1,g2,g4,g5,g17,g18,ltT,ltF,leT,hk',s1,s2,h0,h1,k0,k1,m0,m1,x0,x1,x2,z2,z3,a2,a5,b2,b5,u1,u2,u3]
    rw [zA0]
    simp -implicitDefEqProofs (maxSteps:=1000000) (disch:=first|rfl|omega|assumption) only [go_sem,g1,g2,g4,g5,g17,g18,ltT,ltF,leT,hk',s1,s2,h0,h1,k0,k1,m0,m1,x0,x1,x2,z2,z3,a2,a5,b2,b5,u1,u2,u3]
    rw [zA0]
    simp -implicitDefEqProofs (maxSteps:=1000000) (disch:=first|rfl|omega|assumption) only [go_sem,g1,g2,g4,g5,g17,g18,ltT,ltF,leT,hk',s1,s2,h0,h1,k0,k1,m0,m1,x0,x1,x2,z2,z3,a2,a5,b2,b5,u1,u2,u3]
    rw [zA0]
    simp -implicitDefEqProofs (maxSteps:=1000000) (disch:=first|rfl|omega|assumption) only [go_sem,g1,g2,g4,g5,g17,g18,ltT,ltF,leT,hk',s1,s2,h0,h1,k0,k1,m0,m1,x0,x1,x2,z2,z3,a2,a5,b2,b5,u1,u2,u3]
    exact key _ (by exact g1) (by exact g2) (by exact g4) (by exact g5) (by exact g17) (by rfl)
   ·rw [c1] at m1
    have e:polB s j bj=z1 bj:=by simp only [polB,c0,c1,if_true,Bool.false_eq_true,if_false]
    rw [e] at key
    simp only [zA6,zA4,zA5,zA7,zA3,↓reduceIte,Option.some.injEq,Nat.reduceEqDiff,reduceCtorEq,Tryz.f44]
    rw [zA0]
    simp -implicitDefEqProofs (maxSteps:=1000000) (disch:=first|rfl|omega|assumption) only [go_sem,g1,g2,g4,g5,g17,g18,ltT,ltF,leT,hk',s1,s2,h0,h1,k0,k1,m0,m1,x0,x1,x2,z2,z3,a2,a5,b2,b5,u1,u2,u3]
    rw [zA0]
    simp -implicitDefEqProofs (maxSteps:=1000000) (disch:=first|rfl|omega|assumption) only [go_sem,g1,g2,g4,g5,g17,g18,ltT,ltF,leT,hk',s1,s2,h0,h1,k0,k1,m0,m1,x0,x1,x2,z2,z3,a2,a5,b2,b5,u1,u2,u3]
    rw [zA0]
    simp -implicitDefEqProofs (maxSteps:=1000000) (disch:=first|rfl|omega|assumption) only [go_sem,g1,g2,g4,g5,g17,g18,ltT,ltF,leT,hk',s1,s2,h0,h1,k0,k1,m0,m1,x0,x1,x2,z2,z3,a2,a5,b2,b5,u1,u2,u3]
    rw [zA0]
    simp -implicitDefEqProofs (maxSteps:=1000000) (disch:=first|rfl|omega|assumption) only [go_sem,g1,g2,g4,g5,g17,g18,ltT,ltF,leT,hk',s1,s2,h0,h1,k0,k1,m0,m1,x0,x1,x2,z2,z3,a2,a5,b2,b5,u1,u2,u3]
    exact key _ (by exact g1) (by exact g2) (by exact g4) (by exact g5) (by exact g17) (by rfl)
  ·rw [c0] at m0
   cases c1:s.testBit (2*j+1)
   ·rw [c1] at m1
    have e:polB s j bj=z0 bj:=by simp only [polB,c0,c1,if_true,Bool.false_eq_true,if_false]
    rw [e] at key
    simp only [zA6,zA4,zA5,zA7,zA3,↓reduceIte,Option.some.injEq,Nat.reduceEqDiff,reduceCtorEq,Tryz.f44]
    rw [zA0]
    simp -implicitDefEqProofs (maxSteps:=1000000) (disch:=first|rfl|omega|assumption) only [go_sem,g1,g2,g4,g5,g17,g18,ltT,ltF,leT,hk',s1,s2,h0,h1,k0,k1,m0,m1,x0,x1,x2,z2,z3,a2,a5,b2,b5,u1,u2,u3]
    rw [zA0]
    simp -implicitDefEqProofs (maxSteps:=1000000) (disch:=first|rfl|omega|assumption) only [go_sem,g1,g2,g4,g5,g17,g18,ltT,ltF,leT,hk',s1,s2,h0,h1,k0,k1,m0,m1,x0,x1,x2,z2,z3,a2,a5,b2,b5,u1,u2,u3]
    rw [zA0]
    simp -implicitDefEqProofs (maxSteps:=1000000) (disch:=first|rfl|omega|assumption) only [go_sem,g1,g2,g4,g5,g17,g18,ltT,ltF,leT,hk',s1,s2,h0,h1,k0,k1,m0,m1,x0,x1,x2,z2,z3,a2,a5,b2,b5,u1,u2,u3]
    rw [zA0]
    simp -implicitDefEqProofs (maxSteps:=1000000) (disch:=first|rfl|omega|assumption) only [go_sem,g1,g2,g4,g5,g17,g18,ltT,ltF,leT,hk',s1,s2,h0,h1,k0,k1,m0,m1,x0,x1,x2,z2,z3,a2,a5,b2,b5,u1,u2,u3]
    exact key _ (by exact g1) (by exact g2) (by exact g4) (by exact g5) (by exact g17) (by rfl)
   ·rw [c1] at m1
    have e:polB s j bj=z1 (z0 bj):=by simp only [polB,c0,c1,if_true,Bool.false_eq_true,if_false]
    rw [e] at key
    simp only [zA6,zA4,zA5,zA7,zA3,↓reduceIte,Option.some.injEq,Nat.reduceEqDiff,reduceCtorEq,Tryz.f44]
    rw [zA0]
    simp -implicitDefEqProofs (maxSteps:=1000000) (disch:=first|rfl|omega|assumption) only [go_sem,g1,g2,g4,g5,g17,g18,ltT,ltF,leT,hk',s1,s2,h0,h1,k0,k1,m0,m1,x0,x1,x2,z2,z3,a2,a5,b2,b5,u1,u2,u3]
    rw [zA0]
    simp -implicitDefEqProofs (maxSteps:=1000000) (disch:=first|rfl|omega|assumption) only [go_sem,g1,g2,g4,g5,g17,g18,ltT,ltF,leT,hk',s1,s2,h0,h1,k0,k1,m0,m1,x0,x1,x2,z2,z3,a2,a5,b2,b5,u1,u2,u3]
    rw [zA0]
    simp -implicitDefEqProofs (maxSteps:=1000000) (disch:=first|rfl|omega|assumption) only [go_sem,g1,g2,g4,g5,g17,g18,ltT,ltF,leT,hk',s1,s2,h0,h1,k0,k1,m0,m1,x0,x1,x2,z2,z3,a2,a5,b2,b5,u1,u2,u3]
    rw [zA0]
    simp -implicitDefEqProofs (maxSteps:=1000000) (disch:=first|rfl|omega|assumption) only [go_sem,g1,g2,g4,g5,g17,g18,ltT,ltF,leT,hk',s1,s2,h0,h1,k0,k1,m0,m1,x0,x1,x2,z2,z3,a2,a5,b2,b5,u1,u2,u3]
    exact key _ (by exact g1) (by exact g2) (by exact g4) (by exact g5) (by exact g17) (by rfl)
theorem polF_len (s:Nat):∀ (q j:Nat) (L:List Bk),(foldF (polS s) L j q).length=L.length
 | 0,_,_=>rfl
 | q+1,j,L=>by rw [foldF,polF_len s q,polS_len]
theorem polF_at (s i:Nat):∀ (q j:Nat) (L:List Bk),j+q≤L.length→(foldF (polS s) L j q).getD i bk0=if j≤i∧i<j+q then polB s i (L.getD i bk0) else L.getD i bk0
 | 0,j,L,h=>by
  rw [if_neg (by omega)];rfl
 | q+1,j,L,h=>by
  rw [foldF,polF_at s i q (j+1) (polS s L j) (by rw [polS_len];omega)]
  have e:(polS s L j).getD i bk0=if j=i then polB s i (L.getD i bk0) else L.getD i bk0:=by
   by_cases hji:j=i
   ·subst hji
    rw [if_pos rfl,polS,getD_set L (by omega)]
   ·rw [if_neg hji]
    simp [polS,List.getElem?_set_ne hji]
  rw [e]
  by_cases h1:j=i
  ·subst h1
   rw [if_neg (by omega),if_pos rfl,if_pos (by omega)]
  ·rw [if_neg h1]
   by_cases h2:j+1≤i∧i<j+1+q
   ·rw [if_pos h2,if_pos (by omega)]
   ·rw [if_neg h2,if_neg (by omega)]
def Wg.pol (w:Wg) (s:Nat):Wg:=⟨polL s w.bs,w.ps⟩
theorem pol_n (w:Wg) (s:Nat):(w.pol s).bs.length=w.bs.length:=polF_len s _ _ _
theorem pol_b (w:Wg) (s:Nat) {i:Nat} (h:i<w.bs.length):(w.pol s).b i=polB s i (w.b i):=by
 have:=polF_at s i w.bs.length 0 w.bs (by omega)
 rw [if_pos (by omega)] at this
 exact this
theorem polB_keep (s i:Nat) (b:Bk):(polB s i b).lo=b.lo∧(polB s i b).hi=b.hi∧(polB s i b).f0.lo=b.f0.lo∧(polB s i b).f0.hi=b.f0.hi∧(polB s i b).f1.lo=b.f1.lo∧(polB s i b).f1.hi=b.f1.hi∧(polB s i b).f0.st=(if s.testBit (2*i) then 0 else b.f0.st)∧(polB s i b).f1.st=(if s.testBit (2*i+1) then 0 else b.f1.st):=by
 simp only [polB]
 cases s.testBit (2*i)<;>cases s.testBit (2*i+1)<;>simp [z0,z1]
theorem pol_ok {w:Wg} (ho:w.Ok) (s:Nat):(w.pol s).Ok:=by
 have hn:=pol_n w s
 refine ⟨by simp only [Wg.n,hn];exact ho.n,ho.np,fun i hi=>?_,fun i hi=>?_,fun i hi=>?_,fun i hi=>?_⟩
 ·simp only [Wg.n,hn] at hi
  obtain ⟨k1,k2,-⟩:=polB_keep s i (w.b i)
  rw [pol_b w s hi,k1,k2]
  exact ho.sp i hi
 ·simp only [Wg.n,hn] at hi
  obtain ⟨-,-,k1,k2,-,-,k3,-⟩:=polB_keep s i (w.b i)
  have h0:=ho.f0 i hi
  rw [pol_b w s hi]
  refine ⟨by rw [k1,k2];exact h0.sp,?_⟩
  rw [k3]
  split
  ·omega
  ·exact h0.st
 ·simp only [Wg.n,hn] at hi
  obtain ⟨-,-,-,-,k1,k2,-,k3⟩:=polB_keep s i (w.b i)
  have h0:=ho.f1 i hi
  rw [pol_b w s hi]
  refine ⟨by rw [k1,k2];exact h0.sp,?_⟩
  rw [k3]
  split
  ·omega
  ·exact h0.st
 ·have:=ho.ap i hi
  simp only [Wg.n] at this ⊢
  rw [hn]
  exact this
def bkV (L:List Bk):AV:=.sl false (L.map Bk.av)
theorem pol_at {w:Wg} {vb va:AV} (h:WgAt H w vb va) (s:Nat):WgAt H (w.pol s) (bkV (w.pol s).bs) va:=⟨⟨rfl,fun x hx=>by obtain ⟨i,_,rfl⟩:=List.mem_map.1 hx;rfl⟩,h.ps⟩
theorem wr_polished {w:Wg} {vb va:AV} (h:WgAt H w vb va) (hl:w.bs.length≤5) (s:Nat) (hs:s<1024) :
  zA9 cfg0 zA2 false 44 [.agg [vb,va],U s] H none=some ⟨.ret (.agg [bkV (w.pol s).bs,va]),H,none⟩:=by
 have s1:=h.bs.scal
 have s2:=h.ps.scal
 have n1:=h.bs.len
 rw [List.length_map] at n1
 have c1:=h.bs.cel
 have he:=fun G:Heap=>(h.bs.app G).elems
 have he2:ltL 0 (w.bs.map Bk.av)=true:=zAx (fun _=>rfl) _
 have he3:=elemsOk_map (f:=Bk.av) (sz:=8) (a:=true) (fun _=>rfl) w.bs
 have h1:=pol_loop (H:=H) (vb:=vb) s1 s2 h.ps.lt0 (fun A=>h.ps.sld A) s hs w.bs.length hl (polL s w.bs) w.bs.length 0 (by omega) w.bs rfl rfl
 have e1:bkV (w.pol s).bs=.sl false ((polL s w.bs).map Bk.av):=rfl
 rw [e1]
 refine (zA1 fn44 rfl (by simp [Tryz.f44])).trans ?_
 simp -implicitDefEqProofs (maxSteps:=1000000) (disch:=first|rfl|omega|assumption) only [go_sem,ltT,ltF,leT,s1,s2,n1,c1,evCopy,he,he2,he3,List.length_replicate]
 exact h1 _ (by rfl) (by rfl) (by rfl) (by rfl) (by rfl) (by rfl)
def Wg.canP (w:Wg) (s:Nat):Bool:=decide (0<((w.pol s).tal false ⟨2^w.bs.length-1,pc0,false⟩).1)
theorem wr_pol2 {w:Wg} {vb va:AV} {l m pa pb:Nat} {b:Bool} (hS:ShAt H l m w b vb va) (ho:w.Ok) (hA:H[pa]? = some (.box (.agg [vb,va]))) (hB:H[pb]? = some (.box (.ptr l 0))) (s:Nat) (hs:s<1024) :
  zA9 cfg0 zA2 false 43 [U s,.ptr pa 0,.ptr pb 0] H none=some ⟨.ret (.bool (w.canP s)),H,none⟩:=by
 have h5:=ho.n.2
 simp only [Wg.n] at h5
 have hp:=wr_polished hS.wat h5 s hs
 have hpk:=pol_ok ho s
 have hO:=wr_openA (pol_at hS.wat s) ⟨by rw [pol_n];omega,by have:=ho.np;simp only [Wg.pol];omega⟩ (((w.pol s).valid_iff).2 hpk)
 have hAl:=fun G=>wr_all (hS.app G) ho.n.2
 have hC:=wr_can (opG_at (pol_at hS.wat s)) hpk (s:=2^w.bs.length-1) (by rw [pol_n];exact full_lt w)
 have e:w.canP s=decide (0<((w.pol s).tal false ⟨2^w.bs.length-1,pc0,false⟩).1):=rfl
 rw [← e] at hC
 simp only [opG,Wg.n] at hO hAl hC
 have lA:=(List.getElem?_eq_some_iff.1 hA).1
 have lB:=(List.getElem?_eq_some_iff.1 hB).1
 have hB':=fun G:Heap=>(by rw [List.getElem?_append_left lB];exact hB:(H++G)[pb]? = some (.box (.ptr l 0)))
 refine (zA1 fn43 rfl (by simp [Tryz.f43])).trans ?_
 simp -implicitDefEqProofs (maxSteps:=1000000) (disch:=first|rfl|omega|assumption) only [go_sem,ltT,ltF,leT,hA,hB]
 rw [zAa];rotate_left;kernel_rfl
 simp -implicitDefEqProofs (maxSteps:=1000000) (disch:=first|rfl|omega|assumption) only [go_sem,ltT,ltF,leT,hA,hB,hB',hp,hO,hAl,hC]
 done
def Wg.polishS (w:Wg):Option Nat:=firstF w.canP (setL (2*w.bs.length)) 0 (setL (2*w.bs.length)).length
def Wg.polish (w:Wg):Int×Int×Int:=if w.valid then (match w.polishS with
 | some x=>((pop x:Nat),(x:Nat),0)
 | none=>(0,0,4)) else (0,0,1)
theorem wr_Polish {w:Wg} {vb va:AV} (h:WgAt H w vb va) (hl:w.bs.length≤1000∧w.ps.length≤1000) :
  zA9 cfg0 zA2 false 12 [.agg [vb,va]] H none=some ⟨.ret (.tup [I w.polish.1,I w.polish.2.1,I w.polish.2.2]),H,none⟩:=by
 have s1:=h.bs.scal
 have s2:=h.ps.scal
 have n1:=h.bs.len
 rw [List.length_map] at n1
 have c1:=h.bs.cel
 have hN:=fun G=>wd_Polishn (H.length+1) G
 have hD:=fun (e:Int) (a:AO) (G:Heap)=>wd_Polishs (H.length+1) e 0 (H++(a::.box (I 0)::G)) (by rw [zAi 1];rfl)
 simp only [Wg.polish]
 cases hv:w.valid
 ·have hO:=wr_openX (h.app [.box (.agg [vb,va]),.box (I 0)]) hl hv
  simp only [Bool.false_eq_true,if_false]
  refine (zA1 fn12 rfl (by simp [Tryz.f12])).trans ?_
  simp -implicitDefEqProofs (maxSteps:=1000000) (disch:=first|rfl|omega|assumption) only [go_sem,ltT,ltF,leT,s1,s2,hO,hD]
  done
 have ho:=w.valid_iff.1 hv
 have h5:=ho.n.2
 simp only [Wg.n] at h5
 have hp2:(2:Nat)^(2*w.bs.length)≤2^10:=Nat.pow_le_pow_right (by omega) (by omega)
 have hO:=wr_openA (h.app [.box (.agg [vb,va]),.box (I 0)]) hl hv
 have hS:=opG_in (H:=H) (G0:=[.box (.agg [vb,va]),.box (I 0)]) (n:=H.length+2) (by simp) h
 have hSe:=fun G=>wr_sets (2*w.bs.length) (by omega) G
 have hsl:SlOk (H++[.box (.agg [vb,va]),.box (I 0),.box (.agg [vb,va]),.map 66 (apM w.ps),.box (.agg (shC vb va (fcsN w.b) (vwA false) (H.length+3))),.box (.ptr (H.length+4) 0),.grow 1 ((setL (2*w.bs.length)).map U)]) 1 (.gsl (H.length+6) (2^(2*w.bs.length))) ((setL (2*w.bs.length)).map U) :=
  ⟨⟨by rw [zAi];rfl,by rw [List.length_map,setL_len]⟩,fun x hx=>by obtain ⟨i,_,rfl⟩:=List.mem_map.1 hx;rfl⟩
 have hF:=wr_firstU hsl (by rw [setL_len];omega) (.func 43) [] [.ptr H.length 0,.ptr (H.length+5) 0] w.canP rfl (fun b0 j G hj=>by
  have hc:=wr_pol2 (pa:=H.length) (pb:=H.length+5) (hS (.box (.ptr (H.length+4) 0)::.grow 1 ((setL (2*w.bs.length)).map U)::G)) ho (by rw [get_at];rfl) (by rw [zAi 5];rfl) ((setL (2*w.bs.length)).getD j 0) (by have:=setL_lt (2*w.bs.length) j hj;omega)
  rw [callVL_func]
  simp only [opG,List.append_assoc,List.cons_append,List.nil_append,Nat.add_assoc,Nat.reduceAdd] at hc ⊢
  exact hc)
 have hmS:w.polishS=firstF w.canP (setL (2*w.bs.length)) 0 (setL (2*w.bs.length)).length:=rfl
 rw [← hmS] at hF
 have x0:IntKind.i64.wrap (2*(w.bs.length:Int))=((2*w.bs.length:Nat):Int):=by rw [w64 (by omega) (by omega)];omega
 simp only [if_true]
 simp only [opG,List.length_append,List.length_cons,List.length_nil,Nat.zero_add,Nat.reduceAdd,Nat.add_assoc,List.append_assoc,List.cons_append,List.nil_append,List.append_nil] at hO ⊢
 cases hm:w.polishS with
 | none =>
  rw [hm] at hF
  simp only [firA] at hF ⊢
  refine (zA1 fn12 rfl (by simp [Tryz.f12])).trans ?_
  simp -implicitDefEqProofs (maxSteps:=1000000) (disch:=first|rfl|omega|assumption) only [go_sem,ltT,ltF,leT,s1,s2,hO]
  simp -implicitDefEqProofs (maxSteps:=1000000) (disch:=first|rfl|omega|assumption) only [go_sem,ltT,ltF,leT,s1,s2,n1,c1,x0,hO,hSe,hF,zB5,hD]
  done
 | some x =>
  rw [hm] at hF
  have hxl:=firstF_lt (setL_lt (2*w.bs.length)) (hmS.symm.trans hm)
  have hOn:=fun G:Heap=>ones (H:=G) (x:=x) (by omega)
  simp only [firA] at hF ⊢
  refine (zA1 fn12 rfl (by simp [Tryz.f12])).trans ?_
  simp -implicitDefEqProofs (maxSteps:=1000000) (disch:=first|rfl|omega|assumption) only [go_sem,ltT,ltF,leT,s1,s2,hO]
  simp -implicitDefEqProofs (maxSteps:=1000000) (disch:=first|rfl|omega|assumption) only [go_sem,ltT,ltF,leT,s1,s2,n1,c1,x0,hO,hSe,hF,hOn,zB5,hN]
  done
def mostF (w:Wg) (m:Nat) (j q:Nat):Nat:=foldF (fun m i=>if decide (pop m<pop i)&&w.canS i then i else m) m j q
def Wg.mostR (w:Wg):Nat:=mostF w 1 1 (2^w.bs.length-1)
theorem polB_two (s i:Nat) (b:Bk):polB s i b=if s.testBit (2*i+1) then z1 (if s.testBit (2*i) then z0 b else b) else if s.testBit (2*i) then z0 b else b:=rfl
theorem polL_eq (w:Wg) (s:Nat):(w.pol s).bs=(List.range w.bs.length).map fun i=>polB s i (w.b i):=by
 apply List.ext_getElem
 ·rw [pol_n];simp
 ·intro i h1 h2
  have hi:i<w.bs.length:=by rw [← pol_n w s];exact h1
  have:=pol_b w s hi
  simp only [Wg.b] at this
  rw [List.getElem_map,List.getElem_range,← this]
  simp [h1]
theorem rp_in (s:Nat) (hs:s<2^60) {l4:AO} (i:Nat) (hi:i≤10) (bi:Bk) (acc:List Bk) {vb va:AV} (s1:vb.scalar=true) (s2:va.scalar=true) (r:Bk) (K:List Item) (R:Option Done) (hK:∀ E:Env,E.get 1=I s→E.get 2=.ptr H.length 0→E.get 4=.ptr (H.length+1) 0→E.get 5=.ptr (H.length+2) 0→E.get 6=I i→E.get 7=.ptr (H.length+4) 0→Option.map (zAd H.length) (zAe cfg0 zA2 ⟨13,none,false,H.length⟩ K ⟨E,[],H++[.box (.agg [vb,va]),l4,.box (.agg [.gsl (H.length+3) acc.length,va]),.grow 8 (acc.map Bk.av),.box r.av],none⟩)=R)  :
  ∀ (q j:Nat),j+q=2→∀ (b:Bk),b=(if 2≤j then polB s i bi else if 1≤j then (if s.testBit (2*i) then z0 bi else bi) else bi)→polB s i bi=r→∀ E:Env,E.get 1=I s→E.get 2=.ptr H.length 0→E.get 4=.ptr (H.length+1) 0→E.get 5=.ptr (H.length+2) 0→E.get 6=I i→E.get 7=.ptr (H.length+4) 0→E.get 8=I j →
  Option.map (zAd H.length) (zAe cfg0 zA2 ⟨13,none,false,H.length⟩ (zA6 Tryz.f13 7::.inBlock 2::K) ⟨E,[],H++[.box (.agg [vb,va]),l4,.box (.agg [.gsl (H.length+3) acc.length,va]),.grow 8 (acc.map Bk.av),.box b.av],none⟩)=R:=by
 intro q
 skip
 induction q with
 | zero =>
  intro j hj b hb hr E g1 g2 g4 g5 g6 g7 g8
  have hk':¬ (j:Int)<((2:Nat):Int):=by omega
  have ej:j=2:=by omega
  subst ej
  rw [if_pos (by omega),hr] at hb
  subst hb
  simp only [zA6,zA4,zA5,zA7,zA3,↓reduceIte,Option.some.injEq,Nat.reduceEqDiff,reduceCtorEq,Tryz.f13]
  rw [zA0]
  simp -implicitDefEqProofs (maxSteps:=1000000) (disch:=first|rfl|omega|assumption) only [go_sem,g1,g2,g4,g5,g6,g7,g8,ltT,ltF,leT,hk']
  exact hK _ (by exact g1) (by exact g2) (by exact g4) (by exact g5) (by exact g6) (by exact g7)
 | succ q ih =>
  intro j hj b hb hr E g1 g2 g4 g5 g6 g7 g8
  have hk':(j:Int)<((2:Nat):Int):=by omega
  have hk2:j<2:=by omega
  have x0:IntKind.i64.wrap (2*(i:Int))=((2*i:Nat):Int):=by rw [w64 (by omega) (by omega)];omega
  have x1:IntKind.i64.wrap (((2*i:Nat):Int)+(j:Int))=((2*i+j:Nat):Int):=by rw [w64 (by omega) (by omega)];omega
  have hH:=fun G:Heap=>ref_Has (H:=G) (s:=s) (n:=2*i+j) hs (by omega)
  have hj2:j=0∨j=1:=by omega
  cases c:s.testBit (2*i+j)
  ·rw [c] at hH
   have hb':b=(if 2≤j+1 then polB s i bi else if 1≤j+1 then (if s.testBit (2*i) then z0 bi else bi) else bi):=by
    rcases hj2 with rfl | rfl
    ·simp only [Nat.add_zero] at c
     simpa [c] using hb
    ·rw [hb];simp [polB_two,c]
   clear hb
   obtain ⟨lo,hi',⟨a1,a2,a3⟩,⟨b1,b2,b3⟩⟩:=b
   simp only [Bk.av]
   simp only [zA6,zA4,zA5,zA7,zA3,↓reduceIte,Option.some.injEq,Nat.reduceEqDiff,reduceCtorEq,Tryz.f13]
   rw [zA0]
   simp -implicitDefEqProofs (maxSteps:=1000000) (disch:=first|rfl|omega|assumption) only [go_sem,g1,g2,g4,g5,g6,g7,g8,ltT,ltF,leT,hk',x0,x1,hH]
   have key:=ih (j+1) (by omega) _ hb' hr
   exact key _ (by exact g1) (by exact g2) (by exact g4) (by exact g5) (by exact g6) (by exact g7) (by rfl)
  ·rw [c] at hH
   rcases hj2 with rfl | rfl
   ·simp only [Nat.add_zero] at c
    have hb':z0 b=(if 2≤0+1 then polB s i bi else if 1≤0+1 then (if s.testBit (2*i) then z0 bi else bi) else bi):=by
     rw [hb];simp [c]
    clear hb
    have key:=ih (0+1) (by omega) _ hb' hr
    obtain ⟨lo,hi',⟨a1,a2,a3⟩,⟨b1,b2,b3⟩⟩:=b
    simp only [Bk.av,z0] at key ⊢
    have e0:((2*i:Nat):Int)+0=((2*i:Nat):Int):=by omega
    simp only [Nat.add_zero] at hH
    simp only [zA6,zA4,zA5,zA7,zA3,↓reduceIte,Option.some.injEq,Nat.reduceEqDiff,reduceCtorEq,Tryz.f13]
    rw [zA0]
    simp -implicitDefEqProofs (maxSteps:=1000000) (disch:=first|rfl|omega|assumption) only [go_sem,g1,g2,g4,g5,g6,g7,g8,ltT,ltF,leT,hk',x0,e0,hH]
    exact key _ (by exact g1) (by exact g2) (by exact g4) (by exact g5) (by exact g6) (by exact g7) (by rfl)
   ·have hb':z1 b=(if 2≤1+1 then polB s i bi else if 1≤1+1 then (if s.testBit (2*i) then z0 bi else bi) else bi):=by
     rw [hb];simp [polB_two,c]
    clear hb
    have key:=ih (1+1) (by omega) _ hb' hr
    obtain ⟨lo,hi',⟨a1,a2,a3⟩,⟨b1,b2,b3⟩⟩:=b
    simp only [Bk.av,z1] at key ⊢
    have e0:((2*i:Nat):Int)+1=((2*i+1:Nat):Int):=by omega
    simp only [zA6,zA4,zA5,zA7,zA3,↓reduceIte,Option.some.injEq,Nat.reduceEqDiff,reduceCtorEq,Tryz.f13]
    rw [zA0]
    simp -implicitDefEqProofs (maxSteps:=1000000) (disch:=first|rfl|omega|assumption) only [go_sem,g1,g2,g4,g5,g6,g7,g8,ltT,ltF,leT,hk',x0,e0,hH]
    exact key _ (by exact g1) (by exact g2) (by exact g4) (by exact g5) (by exact g6) (by exact g7) (by rfl)
def polUp (w:Wg) (s j:Nat):List Bk:=(List.range j).map fun i=>polB s i (w.b i)
theorem rp_out {w:Wg} {vb va:AV} (h:WgAt H w vb va) (hw:w.bs.length≤5) (s:Nat) (hs:s<2^60) {l4:AO} (hl4:l4=.box (.agg [.sl true [],.sl true []])) :
  ∀ (q j:Nat),j+q=w.bs.length→∀ (G:Heap),∀ (acc:List Bk),acc=polUp w s j→∀ E:Env,E.get 1=I s→E.get 2=.ptr H.length 0→E.get 4=.ptr (H.length+1) 0→E.get 5=.ptr (H.length+2) 0→E.get 6=I j →
  Option.map (zAd H.length) (zAe cfg0 zA2 ⟨13,none,false,H.length⟩ (zA5 Tryz.f13 3) ⟨E,[],H++(.box (.agg [vb,va])::l4::.box (.agg [.gsl (H.length+3) acc.length,va])::.grow 8 (acc.map Bk.av)::G),none⟩)=some ⟨.ret (.agg [bkV (w.pol s).bs,va]),H,none⟩:=by
 intro q
 have s1:=h.bs.scal
 have s2:=h.ps.scal
 have n1:=h.bs.len
 rw [List.length_map] at n1
 have c1:=h.bs.cel
 have t1:=h.bs.ltn 4
 have t2:=h.ps.ltn 4
 have t3:=h.bs.lt0
 have t4:=h.ps.lt0
 have hsv:=fun A:Heap=>h.ps.sld A
 induction q with
 | zero =>
  intro j hj G acc hacc E g1 g2 g4 g5 g6
  have hk':¬ (j:Int)<((w.bs.length:Nat):Int):=by omega
  have ej:j=w.bs.length:=by omega
  subst ej
  rw [polUp,← polL_eq] at hacc
  subst hl4
  have la:(acc.map Bk.av).length=acc.length:=List.length_map _
  have m3:ltL H.length (acc.map Bk.av)=true:=zAx (fun _=>rfl) acc
  have m4:ltL 0 (acc.map Bk.av)=true:=zAx (fun _=>rfl) acc
  have m5:ltL (H.length+4) (acc.map Bk.av)=true:=zAx (fun _=>rfl) acc
  have e1:bkV (w.pol s).bs=.sl false (acc.map Bk.av):=by rw [hacc];rfl
  simp only [zA6,zA4,zA5,zA7,zA3,↓reduceIte,Option.some.injEq,Nat.reduceEqDiff,reduceCtorEq,Tryz.f13]
  rw [zA0]
  rw [e1]
  simp -implicitDefEqProofs (maxSteps:=1000000) (disch:=first|rfl|omega|assumption) only [go_sem,g1,g2,g4,g5,g6,ltT,ltF,leT,hk',s1,s2,n1,c1,t1,t2,t3,t4,la,m3,m4,m5,hsv]
  done
 | succ q ih =>
  intro j hj G acc hacc E g1 g2 g4 g5 g6
  have hk':(j:Int)<((w.bs.length:Nat):Int):=by omega
  have hk2:j<w.bs.length:=by omega
  subst hl4
  have m4:ltL 0 (acc.map Bk.av)=true:=zAx (fun _=>rfl) acc
  have f1:=@SlOk.fF (H++[.box (.agg [vb,va]),.box (.agg [.sl true [],.sl true []]),.box (.agg [.gsl (H.length+3) acc.length,va]),.grow 8 (acc.map Bk.av)]) Bk Bk.av bk0 8 vb w.bs (h.bs.app _)
  obtain ⟨a1,a2,a3,a4,a5⟩:=f1
  obtain ⟨x,hxx⟩:∃ x,w.bs.getD j bk0=x:=⟨_,rfl⟩
  obtain ⟨y,hyy⟩:∃ y,polB s j x=y:=⟨_,rfl⟩
  have hacc':acc++[y]=polUp w s (j+1):=by
   rw [hacc,← hyy,← hxx]
   simp [polUp,List.range_succ,Wg.b]
  have key:=fun G=>ih (j+1) (by omega) G (acc++[y]) hacc'
  have hav:∀ x:Bk,x.av.cells=[I x.lo,I x.hi,I x.f0.lo,I x.f0.hi,I x.f0.st,I x.f1.lo,I x.f1.hi,I x.f1.st]:=fun _=>rfl
  have haz:∀ x:Bk,x.av=.agg [I x.lo,I x.hi,I x.f0.lo,I x.f0.hi,I x.f0.st,I x.f1.lo,I x.f1.hi,I x.f1.st]:=fun _=>rfl
  have hadd:∀ (o0 o1 o2:AO) (G:Heap) (y:Bk),addElem (H++(o0::o1::o2::.grow 8 (acc.map Bk.av)::G)) 8 true (.gsl (H.length+3) acc.length) [y.av]=some (.gsl (H.length+3) (acc.length+1),H++(o0::o1::o2::.grow 8 ((acc++[y]).map Bk.av)::G)):=fun o0 o1 o2 G y=>by
   rw [add_gsl (xs:=acc.map Bk.av) (by rw [zAi];rfl) (by simp) (by rfl) (by rfl) (by
    have:acc.length=j:=by rw [hacc];simp [polUp]
    simp;omega),set_at']
   simp
  have hal:(acc++[y]).length=acc.length+1:=by simp
  rw [hal] at key
  simp only [zA6,zA4,zA5,zA7,zA3,↓reduceIte,Option.some.injEq,Nat.reduceEqDiff,reduceCtorEq,Tryz.f13]
  rw [zA0]
  simp -implicitDefEqProofs (maxSteps:=1000000) (disch:=first|rfl|omega|assumption) only [go_sem,g1,g2,g4,g5,g6,ltT,ltF,leT,hk',s1,s2,n1,c1,t1,t2,m4,a1,a2,a3,a4,a5,hxx,hav]
  refine rp_in s hs j (by omega) x acc s1 s2 y _ _ (fun E k1 k2 k4 k5 k6 k7=>?_) 2 0 (by omega) x (by simp) hyy _ (by rfl) (by rfl) (by rfl) (by rfl) (by rfl) (by rfl) (by rfl)
  have hadd':=fun (o0 o1 o2:AO) (G:Heap)=>hadd o0 o1 o2 G y
  clear hyy hacc' hadd
  obtain ⟨acc',hac'⟩:∃ acc',acc++[y]=acc':=⟨_,rfl⟩
  rw [hac'] at key hadd'
  clear hac'
  obtain ⟨y1,y2,⟨y3,y4,y5⟩,⟨y6,y7,y8⟩⟩:=y
  simp only [Bk.av] at hadd' ⊢
  simp -implicitDefEqProofs (maxSteps:=1000000) (disch:=first|rfl|omega|assumption) only [go_sem,g1,g2,g4,g5,g6,hk',k1,k2,k4,k5,k6,k7,hadd',s1,s2]
  exact key _ _ (by exact k1) (by exact k2) (by exact k4) (by exact k5) (by rfl)
theorem ref_Polished {w:Wg} {vb va:AV} (h:WgAt H w vb va) (hw:w.bs.length≤5) (s:Nat) (hs:s<2^60) :
  zA9 cfg0 zA2 false 13 [.agg [vb,va],I s] H none=some ⟨.ret (.agg [bkV (w.pol s).bs,va]),H,none⟩:=by
 have s1:=h.bs.scal
 have s2:=h.ps.scal
 have t1:=h.bs.ltn 3
 have t2:=h.ps.ltn 3
 have h1:=rp_out h hw s hs rfl w.bs.length 0 (by omega) [] [] rfl
 simp only [List.map_nil,List.length_nil] at h1
 have c2:=h.ps.cel
 refine (zA1 fn13 rfl (by simp [Tryz.f13])).trans ?_
 simp -implicitDefEqProofs (maxSteps:=1000000) (disch:=first|rfl|omega|assumption) only [go_sem,ltT,ltF,leT,s1,s2,t1,t2,c2]
 exact h1 _ (by rfl) (by rfl) (by rfl) (by rfl) (by rfl)
def polishF (w:Wg) (m:Nat) (j q:Nat):Nat:=foldF (fun m i=>if decide (pop i<pop m)&&w.canP i then i else m) m j q
def Wg.polishR (w:Wg):Nat:=polishF w (2^(2*w.bs.length)-1) 0 (2^(2*w.bs.length))
theorem pop_pos:∀ x<1024,pop x=0→x=0:=by decide +kernel
theorem polishS_is {w:Wg} (ho:w.Ok):(w.polishS=none∧∀ i,i<2^(2*w.bs.length)→w.canP i=false)∨∃ x,w.polishS=some x∧w.canP x=true∧x<2^(2*w.bs.length)∧∀ i,i<2^(2*w.bs.length)→w.canP i=true→pop x<pop i∨(pop x=pop i∧x≤i):=by
 have h5:=ho.n.2
 simp only [Wg.n] at h5
 have hsr:=setL_up (n:=2*w.bs.length) (by omega)
 have hlt:=setL_lt (2*w.bs.length)
 have hp:=pow_le (show 2*w.bs.length≤10 by omega)
 cases hm:w.polishS with
 | none =>
  refine .inl ⟨rfl,fun i hi=>?_⟩
  obtain ⟨k,k1,k2⟩:=setL_has hi
  have:=(findF_none _ _ _).1 hm k (by omega) (by rw [setL_len];omega)
  simp only [gt] at k2
  rw [k2] at this
  cases hc:w.canP i
  ·rfl
  ·rw [hc] at this;cases this
 | some x =>
  obtain ⟨k,k1,k2,k3,k4⟩:=(findF_some _ _ _ _).1 hm
  rw [setL_len] at k2
  have hx:w.canP ((setL (2*w.bs.length)).getD k 0)=true∧(setL (2*w.bs.length)).getD k 0=x:=by
   cases hc:w.canP ((setL (2*w.bs.length)).getD k 0)
   ·rw [hc] at k3;cases k3
   ·rw [hc] at k3;exact ⟨rfl,by simpa using k3⟩
  have hxl:x<2^(2*w.bs.length):=by rw [← hx.2];exact hlt k (by rw [setL_len];omega)
  refine .inr ⟨x,rfl,by rw [← hx.2];exact hx.1,hxl,fun i hi hci=>?_⟩
  obtain ⟨l,l1,l2⟩:=setL_has hi
  simp only [gt] at l2
  by_cases hkl:l<k
  ·have:=k4 l (by omega) hkl
   rw [l2,hci] at this
   cases this
  ·by_cases e:l=k
   ·subst e
    rw [hx.2] at l2
    exact .inr ⟨by rw [l2],by omega⟩
   ·have hs:=hsr k l (by omega) l1
    simp only [gt,hx.2,l2,rkP] at hs
    omega
end Go.Ab
