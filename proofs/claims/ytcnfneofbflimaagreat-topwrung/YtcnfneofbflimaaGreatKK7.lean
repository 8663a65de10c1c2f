/- The reference, walked: what is valid. -/
import Derived.Test.YtcnfneofbflimaaGreatKK6
namespace Go.Ab
open Go.Proofs
set_option linter.unusedSimpArgs false
set_option linter.unusedVariables false
set_option maxRecDepth 100000
set_option maxHeartbeats 2000000
variable {H:Heap}
theorem rw_blk {w:Wg} {vb va:AV} (h:WgAt H w vb va) (hn:w.n≤5) (r:Bool) (K:List Item) (R:Option Done) (hK:r=true→∀ E:Env,E.get 1=.ptr H.length 0→Option.map (zAd H.length) (zAe cfg0 zA2 ⟨4,none,false,H.length⟩ K ⟨E,[],H++[.box (.agg [vb,va])],none⟩)=R) (e1:r=false→R=some ⟨.ret (.bool false),H,none⟩) :
  ∀ (q j:Nat),j+q=w.bs.length→∀ (G:Heap),w.bsOk j q=r→∀ E:Env,E.get 1=.ptr H.length 0→E.get 3=I j →
  Option.map (zAd H.length) (zAe cfg0 zA2 ⟨4,none,false,H.length⟩ (zA6 Tryz.f4 4::.inBlock 0::K) ⟨E,[],H++(.box (.agg [vb,va])::G),none⟩)=R:=by
 intro q
 have hn':w.bs.length≤5:=hn
 obtain ⟨a1,a2,a3,a4,a5⟩:=h.bs.fF (d:=bk0)
 have s1:=h.bs.scal
 have s2:=h.ps.scal
 have c1':=h.bs.cel
 have n1:=h.bs.len
 rw [List.length_map] at n1
 have t1:=h.bs.ltn 1
 have t2:=h.ps.ltn 1
 induction q with
 | zero =>
  intro j hj G hr E g1 g3
  have hk':¬ (j:Int)<((w.bs.length:Nat):Int):=by omega
  have hr1:r=true:=by rw [← hr];rfl
  simp only [zA6,zA4,zA5,zA7,zA3,↓reduceIte,Option.some.injEq,Nat.reduceEqDiff,reduceCtorEq,Tryz.f4]
  rw [zA0]
  simp -implicitDefEqProofs (maxSteps:=1000000) (disch:=first|rfl|omega|assumption) only [go_sem,g1,g3,ltT,ltF,leT,hk',s1,s2,t1,t2,c1',n1]
  exact hK hr1 _ (by rfl)
 | succ q ih =>
  intro j hj G hr E g1 g3
  have hk':(j:Int)<((w.bs.length:Nat):Int):=by omega
  have hk2:j<w.bs.length:=by omega
  have hu:w.bsOk j (q+1)=(bkOk (w.b j)&&w.bsOk (j+1) q):=by
   simp only [Wg.bsOk,anyF]
   cases bkOk (w.b j)<;>simp
  rw [hu] at hr
  obtain ⟨x,hx⟩:∃ x,w.b j=x:=⟨_,rfl⟩
  have hx':w.bs.getD j bk0=x:=hx
  rw [hx] at hr
  obtain ⟨lo,hi,⟨f1,f2,f3⟩,⟨f4,f5,f6⟩⟩:=x
  have hrd:∀ (o:Nat) (ty:Ty),zAf (Bk.av ⟨lo,hi,⟨f1,f2,f3⟩,⟨f4,f5,f6⟩⟩).cells o ty=zAf [I lo,I hi,I f1,I f2,I f3,I f4,I f5,I f6] o ty:=fun _ _=>rfl
  have hok:bkOk ⟨lo,hi,⟨f1,f2,f3⟩,⟨f4,f5,f6⟩⟩=(spOk lo hi 1 200&&((spOk f1 f2 0 5&&wi f3 0 2)&&(spOk f4 f5 0 5&&wi f6 0 2))):=rfl
  rw [hok] at hr
  cases c1:spOk lo hi 1 200
  ·rw [c1,Bool.false_and,Bool.false_and] at hr
   rw [e1 hr.symm]
   simp only [zA6,zA4,zA5,zA7,zA3,↓reduceIte,Option.some.injEq,Nat.reduceEqDiff,reduceCtorEq,Tryz.f4]
   rw [zA0]
   simp -implicitDefEqProofs (maxSteps:=1000000) (disch:=first|rfl|omega|assumption) only [go_sem,g1,g3,ltT,ltF,leT,hk',s1,s2,c1',n1,t1,t2,a1,a2,a3,a4,a5,hx',hrd,ref_span,ref_in,c1]
   done
  rw [c1,Bool.true_and] at hr
  simp only [zA6,zA4,zA5,zA7,zA3,↓reduceIte,Option.some.injEq,Nat.reduceEqDiff,reduceCtorEq,Tryz.f4]
  rw [zA0]
  simp -implicitDefEqProofs (maxSteps:=1000000) (disch:=first|rfl|omega|assumption) only [go_sem,g1,g3,ltT,ltF,leT,hk',s1,s2,c1',n1,t1,t2,a1,a2,a3,a4,a5,hx',hrd,ref_span,ref_in,c1]
  rw [zA0]
  cases c2:spOk f1 f2 0 5
  ·rw [c2,Bool.false_and,Bool.false_and,Bool.false_and] at hr
   rw [e1 hr.symm]
   simp -implicitDefEqProofs (maxSteps:=1000000) (disch:=first|rfl|omega|assumption) only [go_sem,g1,g3,ltT,ltF,leT,hk',s1,s2,c1',n1,t1,t2,a1,a2,a3,a4,a5,hx',hrd,ref_span,ref_in,c2]
   done
  cases c3:wi f3 0 2
  ·rw [c2,c3,Bool.and_false,Bool.false_and,Bool.false_and] at hr
   rw [e1 hr.symm]
   simp -implicitDefEqProofs (maxSteps:=1000000) (disch:=first|rfl|omega|assumption) only [go_sem,g1,g3,ltT,ltF,leT,hk',s1,s2,c1',n1,t1,t2,a1,a2,a3,a4,a5,hx',hrd,ref_span,ref_in,c2,c3]
   done
  rw [c2,c3,Bool.and_self,Bool.true_and] at hr
  simp -implicitDefEqProofs (maxSteps:=1000000) (disch:=first|rfl|omega|assumption) only [go_sem,g1,g3,ltT,ltF,leT,hk',s1,s2,c1',n1,t1,t2,a1,a2,a3,a4,a5,hx',hrd,ref_span,ref_in,c2,c3]
  rw [zA0]
  cases c4:spOk f4 f5 0 5
  ·rw [c4,Bool.false_and,Bool.false_and] at hr
   rw [e1 hr.symm]
   simp -implicitDefEqProofs (maxSteps:=1000000) (disch:=first|rfl|omega|assumption) only [go_sem,g1,g3,ltT,ltF,leT,hk',s1,s2,c1',n1,t1,t2,a1,a2,a3,a4,a5,hx',hrd,ref_span,ref_in,c4]
   done
  cases c5:wi f6 0 2
  ·rw [c4,c5,Bool.and_false,Bool.false_and] at hr
   rw [e1 hr.symm]
   simp -implicitDefEqProofs (maxSteps:=1000000) (disch:=first|rfl|omega|assumption) only [go_sem,g1,g3,ltT,ltF,leT,hk',s1,s2,c1',n1,t1,t2,a1,a2,a3,a4,a5,hx',hrd,ref_span,ref_in,c4,c5]
   done
  rw [c4,c5,Bool.and_self,Bool.true_and] at hr
  simp -implicitDefEqProofs (maxSteps:=1000000) (disch:=first|rfl|omega|assumption) only [go_sem,g1,g3,ltT,ltF,leT,hk',s1,s2,c1',n1,t1,t2,a1,a2,a3,a4,a5,hx',hrd,ref_span,ref_in,c4,c5]
  rw [zA0]
  simp -implicitDefEqProofs (maxSteps:=1000000) (disch:=first|rfl|omega|assumption) only [go_sem,g1,g3,ltT,ltF,leT,hk',s1,s2,c1',n1,t1,t2,a1,a2,a3,a4,a5,hx',hrd,ref_span,ref_in]
  exact ih (j+1) (by omega) _ hr _ (by rfl) (by rfl)
theorem rw_ap {w:Wg} {vb va:AV} (h:WgAt H w vb va) (hn:w.bs.length≤5) (hp:w.ps.length≤6) (r:Bool) :
  ∀ (q j:Nat),j+q=w.ps.length→w.psOk j q=r→∀ E:Env,E.get 1=.ptr H.length 0→E.get 6=I j →
  Option.map (zAd H.length) (zAe cfg0 zA2 ⟨4,none,false,H.length⟩ (zA5 Tryz.f4 15) ⟨E,[],H++[.box (.agg [vb,va])],none⟩)=some ⟨.ret (.bool r),H,none⟩:=by
 intro q
 obtain ⟨a1,a2,a3,a4,a5⟩:=h.ps.fF (d:=ap0)
 have s1:=h.bs.scal
 have s2:=h.ps.scal
 have c1':=h.bs.cel
 have n2:=h.ps.len
 rw [List.length_map] at n2
 have o1:=h.ps.old
 have o2:=fun (k:Int) (off:Nat)=>ptrOf_elA (k:=k) (off:=off) h.ps
 have hB:=fun (G:Heap) (x:Int)=>ref_Block (h.app G) (by omega) x
 induction q with
 | zero =>
  intro j hj hr E g1 g6
  have hk':¬ (j:Int)<((w.ps.length:Nat):Int):=by omega
  have hr1:r=true:=by rw [← hr];rfl
  subst hr1
  simp only [zA6,zA4,zA5,zA7,zA3,↓reduceIte,Option.some.injEq,Nat.reduceEqDiff,reduceCtorEq,Tryz.f4]
  rw [zA0]
  simp -implicitDefEqProofs (maxSteps:=1000000) (disch:=first|rfl|omega|assumption) only [go_sem,g1,g6,ltT,ltF,leT,hk',s1,s2,c1',n2]
  done
 | succ q ih =>
  intro j hj hr E g1 g6
  have hk':(j:Int)<((w.ps.length:Nat):Int):=by omega
  have hk2:j<w.ps.length:=by omega
  have hu:w.psOk j (q+1)=(w.apOk (w.a j)&&w.psOk (j+1) q):=by
   simp only [Wg.psOk,anyF]
   cases w.apOk (w.a j)<;>simp
  rw [hu] at hr
  obtain ⟨⟨a,b⟩,hx⟩:∃ x,w.a j=x:=⟨_,rfl⟩
  have hx':w.ps.getD j ap0=⟨a,b⟩:=hx
  rw [hx] at hr
  have hrd:∀ (o:Nat) (ty:Ty),zAf (Ap.av ⟨a,b⟩).cells o ty=zAf [I a,I b] o ty:=fun _ _=>rfl
  have hok:w.apOk ⟨a,b⟩=(wi a 0 ((w.n:Int)-1)&&(wi b 0 ((w.n:Int)-1)&&(a != b))):=rfl
  rw [hok] at hr
  have hBa:=fun G=>hB G a
  have hBb:=fun G=>hB G b
  cases k1:wi a 0 ((w.n:Int)-1)
  ·rw [k1,Bool.false_and,Bool.false_and] at hr
   rw [k1] at hBa
   subst hr
   simp only [zA6,zA4,zA5,zA7,zA3,↓reduceIte,Option.some.injEq,Nat.reduceEqDiff,reduceCtorEq,Tryz.f4]
   rw [zA0]
   simp -implicitDefEqProofs (maxSteps:=1000000) (disch:=first|rfl|omega|assumption) only [go_sem,g1,g6,ltT,ltF,leT,hk',s1,s2,c1',n2]
   rw [zAa];rotate_left;kernel_rfl
   simp -implicitDefEqProofs (maxSteps:=1000000) (disch:=first|rfl|omega|assumption) only [go_sem,g1,g6,ltT,ltF,leT,hk',s1,s2,c1',n2,a1,a2,a3,a4,a5,o1,o2,ld_ne,ld_eq,hx',hrd,hBa,hBb]
   done
  cases k2:wi b 0 ((w.n:Int)-1)
  ·rw [k1,k2,Bool.false_and,Bool.and_false,Bool.false_and] at hr
   rw [k1] at hBa
   rw [k2] at hBb
   subst hr
   simp only [zA6,zA4,zA5,zA7,zA3,↓reduceIte,Option.some.injEq,Nat.reduceEqDiff,reduceCtorEq,Tryz.f4]
   rw [zA0]
   simp -implicitDefEqProofs (maxSteps:=1000000) (disch:=first|rfl|omega|assumption) only [go_sem,g1,g6,ltT,ltF,leT,hk',s1,s2,c1',n2]
   rw [zAa];rotate_left;kernel_rfl
   simp -implicitDefEqProofs (maxSteps:=1000000) (disch:=first|rfl|omega|assumption) only [go_sem,g1,g6,ltT,ltF,leT,hk',s1,s2,c1',n2,a1,a2,a3,a4,a5,o1,o2,ld_ne,ld_eq,hx',hrd,hBa,hBb]
   done
  rw [k1] at hBa
  rw [k2] at hBb
  rw [k1,k2,Bool.true_and,Bool.true_and] at hr
  by_cases k3:a=b
  ·have k4:(a==b)=true:=by simp [k3]
   have k5:(a != b)=false:=by simp [k3]
   rw [k5,Bool.false_and] at hr
   subst hr
   simp only [zA6,zA4,zA5,zA7,zA3,↓reduceIte,Option.some.injEq,Nat.reduceEqDiff,reduceCtorEq,Tryz.f4]
   rw [zA0]
   simp -implicitDefEqProofs (maxSteps:=1000000) (disch:=first|rfl|omega|assumption) only [go_sem,g1,g6,ltT,ltF,leT,hk',s1,s2,c1',n2]
   rw [zAa];rotate_left;kernel_rfl
   simp -implicitDefEqProofs (maxSteps:=1000000) (disch:=first|rfl|omega|assumption) only [go_sem,g1,g6,ltT,ltF,leT,hk',s1,s2,c1',n2,a1,a2,a3,a4,a5,o1,o2,ld_ne,ld_eq,hx',hrd,hBa,hBb,k4]
   done
  ·have k4:(a==b)=false:=by simp [k3]
   have k5:(a != b)=true:=by simp [k3]
   rw [k5,Bool.true_and] at hr
   simp only [zA6,zA4,zA5,zA7,zA3,↓reduceIte,Option.some.injEq,Nat.reduceEqDiff,reduceCtorEq,Tryz.f4]
   rw [zA0]
   simp -implicitDefEqProofs (maxSteps:=1000000) (disch:=first|rfl|omega|assumption) only [go_sem,g1,g6,ltT,ltF,leT,hk',s1,s2,c1',n2]
   rw [zAa];rotate_left;kernel_rfl
   simp -implicitDefEqProofs (maxSteps:=1000000) (disch:=first|rfl|omega|assumption) only [go_sem,g1,g6,ltT,ltF,leT,hk',s1,s2,c1',n2,a1,a2,a3,a4,a5,o1,o2,ld_ne,ld_eq,hx',hrd,hBa,hBb,k4]
   exact ih (j+1) (by omega) hr _ (by exact g1) (by rfl)
theorem ref_Wring {w:Wg} {vb va:AV} (h:WgAt H w vb va) (hl:w.bs.length≤1000∧w.ps.length≤1000):zA9 cfg0 zA2 false 4 [.agg [vb,va]] H none=some ⟨.ret (.bool w.valid),H,none⟩:=by
 have s1:=h.bs.scal
 have s2:=h.ps.scal
 have n1:=h.bs.len
 have n2:=h.ps.len
 have c1':=h.bs.cel
 have c2':=h.ps.cel
 rw [List.length_map] at n1 n2
 have hv:w.valid=((wi w.bs.length 1 5&&decide ((w.ps.length:Int)≤6))&&(w.bsOk 0 w.bs.length&&w.psOk 0 w.ps.length)):=rfl
 cases c1:wi w.bs.length 1 5
 ·have:w.valid=false:=by rw [hv,c1];rfl
  simp only [this]
  refine (zA1 fn4 rfl (by simp [Tryz.f4])).trans ?_
  simp -implicitDefEqProofs (maxSteps:=1000000) (disch:=first|rfl|omega|assumption) only [go_sem,ltT,ltF,leT,s1,s2,n1,n2,c1',c2',ref_in,c1]
  done
 by_cases c2:(w.ps.length:Int)≤6
 rotate_left
 ·have:w.valid=false:=by rw [hv,c1];simp [c2]
  simp only [this]
  refine (zA1 fn4 rfl (by simp [Tryz.f4])).trans ?_
  simp -implicitDefEqProofs (maxSteps:=1000000) (disch:=first|rfl|omega|assumption) only [go_sem,ltT,ltF,leT,s1,s2,n1,n2,c1',c2',ref_in,c1,c2]
  done
 have hb5:=(wi_iff.1 c1).2
 have hv2:w.valid=(w.bsOk 0 w.bs.length&&w.psOk 0 w.ps.length):=by rw [hv,c1];simp [c2]
 rw [hv2]
 refine (zA1 fn4 rfl (by simp [Tryz.f4])).trans ?_
 simp -implicitDefEqProofs (maxSteps:=1000000) (disch:=first|rfl|omega|assumption) only [go_sem,ltT,ltF,leT,s1,s2,n1,n2,c1',c2',ref_in,c1,c2]
 refine rw_blk h (by simp only [Wg.n];omega) (w.bsOk 0 w.bs.length) _ _ (fun h1 E g1=>?_) (fun h1=>?_) w.bs.length 0 (by omega) [] rfl _ (by rfl) (by rfl)
 ·simp -implicitDefEqProofs (maxSteps:=1000000) (disch:=first|rfl|omega|assumption) only [go_sem,ltT,ltF,leT,s1,s2,n1,n2,c1',c2',g1]
  rw [h1,Bool.true_and]
  exact rw_ap h (by omega) (by omega) _ w.ps.length 0 (by omega) rfl _ (by exact g1) (by rfl)
 ·rw [h1];rfl
def Wg.hld (w:Wg) (b:Bool) (xs:List Pc):Bool:=!anyF (fun i=>w.jt b (pcA xs i) (pcA xs (i+1)) != 0) 0 (xs.length-1)
def Wg.flA (w:Wg) (xs:List Pc) (a:Int×Int) (i:Nat):Int×Int:=(a.1+((w.fa (pcA xs i)).lo+(w.fb (pcA xs (i+1))).lo),a.2+((w.fa (pcA xs i)).hi+(w.fb (pcA xs (i+1))).hi))
def Wg.flm (w:Wg) (xs:List Pc):Int×Int:=foldF (w.flA xs) (0,0) 0 (xs.length-1)
def bd2 (K:Int) (a:Int×Int):Prop:=0≤a.1∧a.1≤K∧0≤a.2∧a.2≤K
theorem brk_hld {w:Wg} (b:Bool) (xs:List Pc):w.hld b xs=decide ((w.brk b xs).2=0):=by
 by_cases h:(w.brk b xs).2=0
 ·rw [decide_eq_true h]
  simp only [Wg.hld,Bool.not_eq_true',anyF_false]
  intro i h1 h2
  simp only [Wg.brk] at h
  cases hf:findF (w.brkF b xs) 0 (xs.length-1) with
  | none =>
   have:=(findF_none _ _ _).1 hf i h1 h2
   simp only [Wg.brkF] at this
   split at this
   ·rename_i hc;rw [hc];rfl
   ·cases this
  | some x =>
   rw [hf] at h
   obtain ⟨k,k1,k2,k3,k4⟩:=(findF_some _ _ _ _).1 hf
   simp only [Wg.brkF] at k3
   split at k3
   ·cases k3
   ·rename_i hc
    cases k3
    exact absurd h hc
 ·rw [decide_eq_false h]
  simp only [Wg.hld,Bool.not_eq_false',anyF_iff]
  simp only [Wg.brk] at h
  cases hf:findF (w.brkF b xs) 0 (xs.length-1) with
  | none=>rw [hf] at h;exact absurd rfl h
  | some x =>
   obtain ⟨k,k1,k2,k3,k4⟩:=(findF_some _ _ _ _).1 hf
   refine ⟨k,k1,k2,?_⟩
   simp only [Wg.brkF] at k3
   split at k3
   ·cases k3
   ·rename_i hc;exact bne_iff_ne.2 hc
def Wg.lnA (w:Wg) (xs:List Pc) (a:Int×Int) (i:Nat):Int×Int:=(a.1+(w.b (pcA xs i).b.toNat).lo,a.2+(w.b (pcA xs i).b.toNat).hi)
def Wg.ext (w:Wg) (b:Bool):Nat→Pl→List (List Pc)
 | 0,_=>[[]]
 | n+1,p=>if p.left=0 then [[]] else (w.plL b p).flatMap fun x=>(w.ext b n (p.next x)).map (x::·)
def Wg.fmL (w:Wg):Pl→List Pc→Int
 | _,[]=>0
 | p,x::r=>w.film p x+w.fmL (p.next x) r
structure LeastOf (f:List Pc→Int) (L:List (List Pc)) (t:Int×Int):Prop where
 len:t.1=L.length
 le:∀ l∈L,t.2≤f l
 ex:L≠[]→∃ l∈L,f l=t.2
theorem plU_iff {w:Wg} {b:Bool} {p:Pl} {j:Nat} {x:Pc}:∀ (q u:Nat),x∈w.plU b p j u q↔x.b=(j:Int)∧(∃ k:Nat,x.u=(k:Int)∧u≤k∧k<u+q)∧w.ok1 b p x=true
 | 0,u=>by
  simp only [Wg.plU,List.not_mem_nil,false_iff]
  rintro ⟨_,⟨k,_,h1,h2⟩,_⟩
  omega
 | q+1,u=>by
  simp only [Wg.plU]
  have ih:=plU_iff (w:=w) (b:=b) (p:=p) (j:=j) (x:=x) q (u+1)
  have back:(x.b=(j:Int)∧(∃ k:Nat,x.u=(k:Int)∧u≤k∧k<u+(q+1))∧w.ok1 b p x=true)↔(x=⟨j,u⟩∧w.ok1 b p ⟨j,u⟩=true)∨(x.b=(j:Int)∧(∃ k:Nat,x.u=(k:Int)∧u+1≤k∧k<u+1+q)∧w.ok1 b p x=true):=by
   constructor
   ·rintro ⟨h1,⟨k,h2,h3,h4⟩,h5⟩
    by_cases hk:k=u
    ·subst hk
     have:x=⟨j,k⟩:=by obtain ⟨a,c⟩:=x;simp only at h1 h2;rw [h1,h2]
     subst this
     exact .inl ⟨rfl,h5⟩
    ·exact .inr ⟨h1,⟨k,h2,by omega,by omega⟩,h5⟩
   ·rintro (⟨rfl,h⟩ | ⟨h1,⟨k,h2,h3,h4⟩,h5⟩)
    ·exact ⟨rfl,⟨u,rfl,by omega,by omega⟩,h⟩
    ·exact ⟨h1,⟨k,h2,by omega,by omega⟩,h5⟩
  rw [back,← ih]
  cases hok:w.ok1 b p ⟨j,u⟩
  ·simp
  ·simp [List.mem_cons]
theorem plB_iff {w:Wg} {b:Bool} {p:Pl} {x:Pc}:∀ (q j:Nat),x∈w.plB b p j q↔(∃ k:Nat,x.b=(k:Int)∧j≤k∧k<j+q∧p.left.testBit k=true)∧(0≤x.u∧x.u≤1)∧w.ok1 b p x=true
 | 0,j=>by
  simp only [Wg.plB,List.not_mem_nil,false_iff]
  rintro ⟨⟨k,_,h1,h2,_⟩,_⟩
  omega
 | q+1,j=>by
  have ih:=plB_iff (w:=w) (b:=b) (p:=p) (x:=x) q (j+1)
  have hU:x∈w.plU b p j 0 2↔x.b=(j:Int)∧(0≤x.u∧x.u≤1)∧w.ok1 b p x=true:=by
   rw [plU_iff]
   constructor
   ·rintro ⟨h1,⟨k,h2,h3,h4⟩,h5⟩
    exact ⟨h1,by omega,h5⟩
   ·rintro ⟨h1,h2,h5⟩
    exact ⟨h1,⟨x.u.toNat,by omega,by omega,by omega⟩,h5⟩
  simp only [Wg.plB]
  cases hb:p.left.testBit j
  ·simp only [Bool.false_eq_true,if_false,ih]
   constructor
   ·rintro ⟨⟨k,h1,h2,h3,h4⟩,h5⟩
    exact ⟨⟨k,h1,by omega,by omega,h4⟩,h5⟩
   ·rintro ⟨⟨k,h1,h2,h3,h4⟩,h5⟩
    have:k≠j:=by rintro rfl;rw [hb] at h4;cases h4
    exact ⟨⟨k,h1,by omega,by omega,h4⟩,h5⟩
  ·simp only [if_true,List.mem_append,ih,hU]
   constructor
   ·rintro (⟨h1,h2⟩ | ⟨⟨k,h1,h2,h3,h4⟩,h5⟩)
    ·exact ⟨⟨j,h1,by omega,by omega,hb⟩,h2⟩
    ·exact ⟨⟨k,h1,by omega,by omega,h4⟩,h5⟩
   ·rintro ⟨⟨k,h1,h2,h3,h4⟩,h5⟩
    by_cases hk:k=j
    ·subst hk;exact .inl ⟨h1,h5⟩
    ·exact .inr ⟨⟨k,h1,by omega,by omega,h4⟩,h5⟩
theorem plL_iff {w:Wg} {b:Bool} {p:Pl} {x:Pc}:x∈w.plL b p↔w.pok x∧p.left.testBit x.b.toNat=true∧(p.some=true→w.jt b p.top x=0):=by
 have hk:w.ok1 b p x=true↔(p.some=true→w.jt b p.top x=0):=by
  simp only [Wg.ok1]
  cases p.some<;>simp
 rw [Wg.plL,plB_iff,hk]
 constructor
 ·rintro ⟨⟨k,h1,h2,h3,h4⟩,h5,h6⟩
  have:x.b.toNat=k:=by omega
  exact ⟨⟨by omega,by simp only [Wg.n];omega,h5⟩,by rw [this];exact h4,h6⟩
 ·rintro ⟨⟨h1,h2,h3,h4⟩,h5,h6⟩
  simp only [Wg.n] at h2
  exact ⟨⟨x.b.toNat,by omega,by omega,by omega,h5⟩,⟨h3,h4⟩,h6⟩
def Wg.goes (w:Wg) (b:Bool):Pl→List Pc→Prop
 | p,[]=>p.left=0
 | p,x::r=>x∈w.plL b p∧w.goes b (p.next x) r
theorem next_bit {w:Wg} (ho:w.Ok) {b:Bool} {p:Pl} (hp:p.Ok w) {x:Pc} (hx:x∈w.plL b p) (i:Nat):(p.next x).left.testBit i=(p.left.testBit i&&i != x.b.toNat):=by
 obtain ⟨h1,h2,_⟩:=plL_iff.1 hx
 have h5:=ho.n.2
 have hs:=hp.lt64 ho
 have hj:x.b.toNat<6:=by have:=h1.1;have:=h1.2.1;omega
 have key:∀ j:Nat,j<6→∀ s:Nat,s<64→s.testBit j=true→∀ i:Nat,i<6→(s-2^j).testBit i=(s.testBit i&&i != j):=by decide +kernel
 simp only [Pl.next]
 by_cases hi:i<6
 ·exact key _ hj _ hs h2 i hi
 ·have hb:∀ s:Nat,s<64→s.testBit i=false:=fun s hs=>Nat.testBit_lt_two_pow (Nat.lt_of_lt_of_le hs (show 2^6≤2^i from Nat.pow_le_pow_right (by omega) (by omega)))
  rw [hb _ (Nat.lt_of_le_of_lt (Nat.sub_le _ _) hs),hb _ hs]
  rfl
def Wg.hL (w:Wg) (b:Bool):Option Pc→List Pc→Prop
 | _,[]=>True
 | o,x::r=>(∀ y,o=some y→w.jt b y x=0)∧w.hL b (some x) r
def Pl.tp (p:Pl):Option Pc:=if p.some then Option.some p.top else Option.none
theorem goes_iff {w:Wg} (ho:w.Ok) {b:Bool}:∀ (l:List Pc) (p:Pl),p.Ok w→(w.goes b p l↔(∀ x∈l,w.pok x)∧(l.map Pc.b).Nodup∧(∀ i:Nat,p.left.testBit i=true↔∃ x∈l,x.b=(i:Int))∧w.hL b p.tp l)
 | [],p,hp=>by
  simp only [Wg.goes,List.not_mem_nil,false_implies,implies_true,List.map_nil,List.nodup_nil,false_and,exists_false,iff_false,Wg.hL,and_true,true_and]
  constructor
  ·intro h i;rw [h,Nat.zero_testBit];simp
  ·intro h
   refine Nat.eq_of_testBit_eq fun i=>?_
   rw [Nat.zero_testBit]
   exact Bool.eq_false_iff.2 (h i)
 | x::r,p,hp=>by
  simp only [Wg.goes,Wg.hL]
  have htp:(∀ y,p.tp=some y→w.jt b y x=0)↔(p.some=true→w.jt b p.top x=0):=by
   simp only [Pl.tp]
   cases p.some<;>simp
  constructor
  ·rintro ⟨h1,h2⟩
   obtain ⟨g1,g2⟩:=zBd ho hp h1
   obtain ⟨k1,k2,k3,k4⟩:=(goes_iff ho r (p.next x) g1).1 h2
   obtain ⟨m1,m2,m3⟩:=plL_iff.1 h1
   refine ⟨?_,?_,?_,htp.2 m3,k4⟩
   ·intro y hy
    rcases List.mem_cons.1 hy with rfl | hy
    ·exact m1
    ·exact k1 y hy
   ·rw [List.map_cons,List.nodup_cons]
    refine ⟨fun hm=>?_,k2⟩
    obtain ⟨y,y1,y2⟩:=List.mem_map.1 hm
    have hy:=k1 y y1
    have:=(k3 y.b.toNat).2 ⟨y,y1,by have:=hy.1;omega⟩
    rw [next_bit ho hp h1,y2] at this
    simp at this
   ·intro i
    have hb:=next_bit ho hp h1 i
    have hk:=k3 i
    rw [hb] at hk
    constructor
    ·intro hi
     by_cases e:i=x.b.toNat
     ·exact ⟨x,List.mem_cons_self ..,by have:=m1.1;omega⟩
     ·obtain ⟨y,y1,y2⟩:=hk.1 (by simp [hi,e])
      exact ⟨y,List.mem_cons_of_mem _ y1,y2⟩
    ·rintro ⟨y,y1,y2⟩
     rcases List.mem_cons.1 y1 with rfl | y1
     ·have:y.b.toNat=i:=by omega
      rw [← this];exact m2
     ·have:=hk.2 ⟨y,y1,y2⟩
      simp only [Bool.and_eq_true] at this
      exact this.1
  ·rintro ⟨h1,h2,h3,h4,h5⟩
   have hx:=h1 x (List.mem_cons_self ..)
   have hm:x∈w.plL b p:=plL_iff.2 ⟨hx,(h3 x.b.toNat).2 ⟨x,List.mem_cons_self ..,by have:=hx.1;omega⟩,htp.1 h4⟩
   obtain ⟨g1,g2⟩:=zBd ho hp hm
   rw [List.map_cons,List.nodup_cons] at h2
   refine ⟨hm,(goes_iff ho r (p.next x) g1).2 ⟨fun y hy=>h1 y (List.mem_cons_of_mem _ hy),h2.2,fun i=>?_,h5⟩⟩
   rw [next_bit ho hp hm]
   constructor
   ·intro hi
    simp only [Bool.and_eq_true,bne_iff_ne,ne_eq] at hi
    obtain ⟨y,y1,y2⟩:=(h3 i).1 hi.1
    rcases List.mem_cons.1 y1 with rfl | y1
    ·exact absurd (by omega) hi.2
    ·exact ⟨y,y1,y2⟩
   ·rintro ⟨y,y1,y2⟩
    have:=(h3 i).2 ⟨y,List.mem_cons_of_mem _ y1,y2⟩
    simp only [Bool.and_eq_true,bne_iff_ne,ne_eq]
    refine ⟨this,fun e=>h2.1 (List.mem_map.2 ⟨y,y1,?_⟩)⟩
    have:=hx.1
    omega
theorem pc_mem {l:List Pc} {x:Pc} (h:x∈l):∃ i,i<l.length∧pcA l i=x:=by
 obtain ⟨i,hi,rfl⟩:=List.mem_iff_getElem.1 h
 exact ⟨i,hi,by simp [pcA,hi]⟩
theorem pcA_mem {l:List Pc} {i:Nat} (h:i<l.length):pcA l i∈l:=by
 simp only [pcA,List.getD_eq_getElem?_getD,List.getElem?_eq_getElem h,Option.getD_some]
 exact List.getElem_mem h
theorem pcA_get {l:List Pc} {i:Nat} (h:i<l.length):pcA l i=l[i]:=by
 simp [pcA,h]
theorem poks_iff {w:Wg} {l:List Pc}:w.poks l↔∀ x∈l,w.pok x:=by
 constructor
 ·intro h x hx
  obtain ⟨i,hi,rfl⟩:=pc_mem hx
  exact h i hi
 ·intro h i hi
  exact h _ (pcA_mem hi)
theorem stk_iff {w:Wg} {l:List Pc}:w.stk l=true↔l≠[]∧(∀ x∈l,w.pok x)∧(l.map Pc.b).Nodup:=by
 have hne:(decide ((0:Int)<l.length)=true)↔l≠[]:=by
  rw [decide_eq_true_eq]
  constructor
  ·rintro h rfl;simp at h
  ·intro h;have:=List.length_pos_iff.2 h;omega
 have hb:∀ i,w.badAt l i=false↔w.pok (pcA l i)∧∀ x∈l.take i,x.b≠(pcA l i).b:=by
  intro i
  simp only [Wg.badAt,Bool.or_eq_false_iff,Bool.not_eq_false',wi_iff,List.any_eq_false,beq_iff_eq,Wg.pok,Wg.n]
  constructor
  ·rintro ⟨h1,h2,h3⟩;exact ⟨by omega,h3⟩
  ·rintro ⟨h1,h3⟩;exact ⟨by omega,by omega,h3⟩
 simp only [Wg.stk,Bool.and_eq_true,Bool.not_eq_true',anyF_false,hne,hb]
 rw [← poks_iff]
 have hnd:(l.map Pc.b).Nodup↔∀ i,i<l.length→∀ x∈l.take i,x.b≠(pcA l i).b:=by
  rw [List.Nodup,List.pairwise_map,List.pairwise_iff_getElem]
  constructor
  ·intro h i hi x hx
   obtain ⟨k,hk,rfl⟩:=List.mem_iff_getElem.1 hx
   rw [List.length_take] at hk
   rw [List.getElem_take,pcA_get hi]
   exact h k i (by omega) hi (by omega)
  ·intro h i j hi hj hij
   have:=h j hj l[i] (by
    rw [List.mem_iff_getElem]
    exact ⟨i,by rw [List.length_take];omega,List.getElem_take⟩)
   rw [pcA_get hj] at this
   exact this
 rw [hnd]
 constructor
 ·rintro ⟨h1,h2⟩
  exact ⟨h2,fun i hi=>(h1 i (by omega) (by omega)).1,fun i hi=>(h1 i (by omega) (by omega)).2⟩
 ·rintro ⟨h2,h3,h4⟩
  exact ⟨fun i _ hi=>⟨h3 i (by omega),h4 i (by omega)⟩,h2⟩
theorem hL_iff {w:Wg} {b:Bool}:∀ (l:List Pc) (o:Option Pc),w.hL b o l↔(∀ y,o=some y→0<l.length→w.jt b y (pcA l 0)=0)∧∀ i,i+1<l.length→w.jt b (pcA l i) (pcA l (i+1))=0
 | [],o=>by simp [Wg.hL]
 | x::r,o=>by
  have ih:=hL_iff (w:=w) (b:=b) r (some x)
  have e0:pcA (x::r) 0=x:=rfl
  have e1:∀ i,pcA (x::r) (i+1)=pcA r i:=fun i=>rfl
  simp only [Wg.hL,ih,e0,e1,List.length_cons,Option.some.injEq,forall_eq']
  constructor
  ·rintro ⟨h1,h2,h3⟩
   refine ⟨fun y hy _=>h1 y hy,fun i hi=>?_⟩
   cases i with
   | zero=>rw [e0];exact h2 (by omega)
   | succ i=>rw [e1];exact h3 i (by omega)
  ·rintro ⟨h1,h2⟩
   refine ⟨fun y hy=>h1 y hy (by omega),fun h=>?_,fun i hi=>?_⟩
   ·have:=h2 0 (by omega);rw [e0] at this;exact this
   ·have:=h2 (i+1) (by omega);rw [e1] at this;exact this
theorem hld_iff {w:Wg} {b:Bool} {l:List Pc}:w.hld b l=true↔∀ i,i+1<l.length→w.jt b (pcA l i) (pcA l (i+1))=0:=by
 simp only [Wg.hld,Bool.not_eq_true',anyF_false,bne_eq_false_iff_eq]
 constructor
 ·intro h i hi;exact h i (by omega) (by omega)
 ·intro h i _ hi;exact h i (by omega)
theorem hld_hL {w:Wg} {b:Bool} {l:List Pc}:w.hld b l=true↔w.hL b none l:=by
 rw [hld_iff,hL_iff];simp
def Wg.setOf (w:Wg) (s:Nat) (l:List Pc):Prop:=∀ i:Nat,s.testBit i=true↔∃ x∈l,x.b=(i:Int)
theorem goes_set {w:Wg} (ho:w.Ok) {b:Bool} {s:Nat} (hs:s<2^w.bs.length) (l:List Pc):w.goes b ⟨s,pc0,false⟩ l↔(l=[]∧s=0)∨(w.stk l=true∧w.hld b l=true∧w.setOf s l):=by
 rw [goes_iff ho l _ (start_ok hs),stk_iff,hld_hL]
 show _∧_∧w.setOf s l∧w.hL b none l↔_
 constructor
 ·rintro ⟨h1,h2,h3,h4⟩
  by_cases hl:l=[]
  ·subst hl
   refine .inl ⟨rfl,Nat.eq_of_testBit_eq fun i=>?_⟩
   rw [Nat.zero_testBit]
   have:=h3 i
   simp only [List.not_mem_nil,false_and,exists_false,iff_false] at this
   exact Bool.eq_false_iff.2 this
  ·exact .inr ⟨⟨hl,h1,h2⟩,h4,h3⟩
 ·rintro (⟨rfl,rfl⟩ | ⟨⟨h0,h1,h2⟩,h4,h3⟩)
  ·exact ⟨fun x hx=>(by cases hx),List.nodup_nil,fun i=>(by simp),trivial⟩
  ·exact ⟨h1,h2,h3,h4⟩
theorem fold_fm (w:Wg) (xs:List Pc):∀ (q j:Nat) (a:Int×Int) (s:Nat),j+q+1=xs.length→(foldF (w.flA xs) a j q).2=a.2+w.fmL ⟨s,pcA xs j,true⟩ (xs.drop (j+1))
 | 0,j,a,s,h=>by
  rw [List.drop_eq_nil_of_le (by omega)]
  simp [foldF,Wg.fmL]
 | q+1,j,a,s,h=>by
  have hd:xs.drop (j+1)=pcA xs (j+1)::xs.drop (j+1+1):=by
   rw [List.drop_eq_getElem_cons (show j+1<xs.length by omega),pcA_get (by omega)]
  rw [foldF,hd,fold_fm w xs q (j+1) _ (s-2^(pcA xs (j+1)).b.toNat) (by omega)]
  have e:w.fmL ⟨s,pcA xs j,true⟩ (pcA xs (j+1)::xs.drop (j+1+1))=((w.fa (pcA xs j)).hi+(w.fb (pcA xs (j+1))).hi)+w.fmL ⟨s-2^(pcA xs (j+1)).b.toNat,pcA xs (j+1),true⟩ (xs.drop (j+1+1)):=rfl
  rw [e]
  simp only [Wg.flA]
  omega
theorem flm_fm (w:Wg) (s:Nat) (t:Pc) (xs:List Pc):(w.flm xs).2=w.fmL ⟨s,t,false⟩ xs:=by
 cases xs with
 | nil=>rfl
 | cons x r =>
  have h:=fold_fm w (x::r) r.length 0 (0,0) (s-2^x.b.toNat) (by simp)
  have e:w.fmL ⟨s,t,false⟩ (x::r)=0+w.fmL ⟨s-2^x.b.toNat,x,true⟩ r:=rfl
  rw [e]
  simp only [Wg.flm,List.length_cons,Nat.add_sub_cancel]
  rw [h]
  rfl
theorem tal_zero {w:Wg} {b:Bool} (p:Pl) (h:p.left=0):w.tal b p=(1,0):=by simp only [Wg.tal,Wg.talF,h,if_true]
theorem bestL_goes {w:Wg} (ho:w.Ok):∀ (q:Nat) (p:Pl),p.Ok w→cnt p.left=q→0<(w.tal false p).1→w.goes false p (w.bestL q p)∧w.fmL p (w.bestL q p)=(w.tal false p).2
 | 0,p,hp,hc,ht=>by
  have h0:=(cnt_zero (hp.lt64 ho)).1 hc
  exact ⟨h0,by rw [tal_zero p h0];rfl⟩
 | q+1,p,hp,hc,ht=>by
  have h0:p.left≠0:=fun e=>by have:=(cnt_zero (hp.lt64 ho)).2 e;omega
  obtain ⟨x,hx1,hx2,hx3⟩:=bestX_some ho hp h0 ht
  have hbl:w.bestL (q+1) p=x::w.bestL q (p.next x):=by simp only [Wg.bestL,hx1]
  have hf:=List.find?_some hx1
  simp only [Wg.fits,Bool.and_eq_true,decide_eq_true_eq,beq_iff_eq] at hf
  obtain ⟨g1,g2⟩:=zBd ho hp hx2
  obtain ⟨i1,i2⟩:=bestL_goes ho q (p.next x) g1 (by omega) hf.1
  rw [hbl]
  exact ⟨⟨hx2,i1⟩,by simp only [Wg.fmL];rw [i2];omega⟩
def lexP (a c:Pc):Prop:=a.b<c.b∨(a.b=c.b∧a.u<c.u)
def lexL:List Pc→List Pc→Prop
 | [],_=>True
 | _,[]=>False
 | a::r,c::s=>lexP a c∨(a=c∧lexL r s)
end Go.Ab
