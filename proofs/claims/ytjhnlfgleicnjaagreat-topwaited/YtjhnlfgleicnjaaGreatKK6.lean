/- The references, walked: what is valid. -/
import Derived.Test.YtjhnlfgleicnjaaGreatKK2
import Derived.Test.YtjhnlfgleicnjaaGreatKK5
namespace Go.Ab
open Go.Proofs
set_option linter.unusedSimpArgs false
set_option linter.unusedVariables false
set_option maxRecDepth 100000
set_option maxHeartbeats 2000000
variable {H:Heap}
theorem rf_in (n lo hi:Int) (H:Heap):zA8 cfg0 zA0 false 17 [I n,I lo,I hi] H none=some ⟨.ret (.bool (wi n lo hi)),H,none⟩:=by
 refine (zA1 fn17 rfl (by simp [Tryz.f17])).trans ?_
 by_cases h1:lo≤n<;>simp -implicitDefEqProofs only [go_sem,h1,wi]
theorem rf_span (a b lo hi:Int) (H:Heap):zA8 cfg0 zA0 false 18 [.agg [I a,I b],I lo,I hi] H none=some ⟨.ret (.bool (spn a b lo hi)),H,none⟩:=by
 refine (zA1 fn18 rfl (by simp [Tryz.f18])).trans ?_
 by_cases h1:lo≤a
 ·by_cases h2:a≤b
  ·by_cases h3:b≤hi<;>simp -implicitDefEqProofs only [go_sem,h1,h2,h3,spn]
  ·simp -implicitDefEqProofs only [go_sem,h1,h2,spn]
 ·simp -implicitDefEqProofs only [go_sem,h1,spn]
theorem rf_Block {vb vt:AV} {s:Stl} (hvb:SlOk H 6 vb (s.bs.map Blk.av)) (hvt:SlOk H 4 vt (s.ts.map Tch.av)) (hl:s.bs.length≤1000) (n:Int):zA8 cfg0 zA0 false 19 [.agg [vb,I s.near,I s.last,vt],I n] H none=some ⟨.ret (.bool (wi n 0 ((s.bs.length:Int)-1))),H,none⟩:=by
 have e1:IntKind.i64.wrap ((s.bs.length:Int)-1)=(s.bs.length:Int)-1:=w64 (by omega) (by omega)
 have l1:=hvb.len
 rw [List.length_map] at l1
 have hs1:=hvb.scal
 have hs2:=hvt.scal
 refine (zA1 fn19 rfl (by simp [Tryz.f19])).trans ?_
 simp -implicitDefEqProofs (maxSteps:=1000000) (disch:=first|rfl|omega|assumption) only [go_sem,ltT,ltF,leT,l1,e1,rf_in,hs1,hs2]
 done
theorem rf_Minute {vb vt:AV} {s:Stl} (hs1:vb.scalar=true) (hs2:vt.scalar=true) (n:Int) (H:Heap):zA8 cfg0 zA0 false 20 [.agg [vb,I s.near,I s.last,vt],I n] H none=some ⟨.ret (.bool (wi n 0 s.last)),H,none⟩:=by
 refine (zA1 fn20 rfl (by simp [Tryz.f20])).trans ?_
 simp -implicitDefEqProofs (maxSteps:=1000000) (disch:=first|rfl|omega|assumption) only [go_sem,ltT,ltF,leT,rf_in,hs1,hs2]
 done
def Stl.badB (s:Stl) (i:Nat):Bool:=!(s.bs.getD i ⟨0,0,0,0,0,0⟩).okb
def Stl.badT (s:Stl) (i:Nat):Bool:=!(s.ts.getD i ⟨0,0,0,0⟩).okb s.bs.length s.last
def Stl.okB (s:Stl):Bool:=wi s.bs.length 1 4&&(wi s.near 0 20&&(wi s.last 1 60&&(decide ((s.ts.length:Int)≤6)&&(!anyF s.badB 0 s.bs.length&&!anyF s.badT 0 s.ts.length))))
theorem anyF_all {f:Nat→Bool}:∀ (q j:Nat),anyF f j q=false→∀ i,j≤i→i<j+q→f i=false
 | 0,j,_,i,h1,h2=>by omega
 | q+1,j,h,i,h1,h2=>by
  simp only [anyF,Bool.or_eq_false_iff] at h
  by_cases e:i=j
  ·subst e;exact h.1
  ·exact anyF_all q (j+1) h.2 i (by omega) (by omega)
theorem okB_ok {s:Stl} (h:s.okB=true):s.Ok:=by
 simp only [Stl.okB,Bool.and_eq_true,wi_iff,decide_eq_true_eq,Bool.not_eq_true'] at h
 obtain ⟨h1,h2,h3,h4,h5,h6⟩:=h
 refine ⟨by omega,h2,h3,by omega,fun i hi=>?_,fun i hi=>?_⟩
 ·have:=anyF_all _ _ h5 i (by omega) (by omega)
  simpa [Stl.badB] using this
 ·have:=anyF_all _ _ h6 i (by omega) (by omega)
  simpa [Stl.badT] using this
theorem rt_l4 {vb vt:AV} {s:Stl} (hvb:SlOk H 6 vb (s.bs.map Blk.av)) (hvt:SlOk H 4 vt (s.ts.map Tch.av)) (hl:s.bs.length≤1000∧s.ts.length≤1000) (r:Bool) (K:List Item) (R:Option Done) (hK:r=false→∀ E:Env,E.get 1=.ptr H.length 0→Option.map (zAi H.length) (zAh cfg0 zA0 ⟨4,none,false,H.length⟩ K ⟨E,[],H++[.box (.agg [vb,I s.near,I s.last,vt])],none⟩)=R) (e1:r=true→R=some ⟨.ret (.bool false),H,none⟩) :
  ∀ (q j:Nat),j+q=s.bs.length→∀ (G:Heap),anyF s.badB j q=r→∀ E:Env,E.get 1=.ptr H.length 0→E.get 3=I j →
  Option.map (zAi H.length) (zAh cfg0 zA0 ⟨4,none,false,H.length⟩ (zAb Tryz.f4 4::.inBlock 0::K) ⟨E,[],H++(.box (.agg [vb,I s.near,I s.last,vt])::G),none⟩)=R:=by
 intro q
 obtain ⟨a1,a2,a3,a4,a5⟩:=hvb.fF (d:=(⟨0,0,0,0,0,0⟩:Blk))
 have hs1:=hvb.scal
 have hs2:=hvt.scal
 have t1:=hvb.ltn 1
 have t2:=hvt.ltn 1
 have l1:=hvb.len
 rw [List.length_map] at l1
 induction q with
 | zero =>
  intro j hj G hr E g1 g3
  have hk':¬ (j:Int)<((s.bs.length:Nat):Int):=by omega
  have hr1:r=false:=by rw [← hr];rfl
  simp only [zAb,zA4,zA7,zAa,zA3,↓reduceIte,Option.some.injEq,Nat.reduceEqDiff,reduceCtorEq,Tryz.f4]
  rw [zA2]
  simp -implicitDefEqProofs (maxSteps:=1000000) (disch:=first|rfl|omega|assumption) only [go_sem,g1,g3,ltT,ltF,leT,hk',hs1,hs2,t1,t2,l1]
  exact hK hr1 _ (by rfl)
 | succ q ih =>
  intro j hj G hr E g1 g3
  have hk':(j:Int)<((s.bs.length:Nat):Int):=by omega
  have hk2:j<s.bs.length:=by omega
  obtain ⟨x,hx⟩:∃ x,s.bs.getD j ⟨0,0,0,0,0,0⟩=x:=⟨_,rfl⟩
  have hcl:∀ x:Blk,x.av.cells=[I x.x0,I x.x1,I x.s0,I x.s1,I x.g0,I x.g1]:=fun _=>rfl
  have hu:anyF s.badB j (q+1)=(!x.okb||anyF s.badB (j+1) q):=by simp only [anyF,Stl.badB,hx]
  rw [hu] at hr
  have key:=fun G (h:anyF s.badB (j+1) q=r)=>ih (j+1) (by omega) G h
  simp only [Blk.okb] at hr
  cases c1:spn x.x0 x.x1 (-100) 100
  ·rw [c1,Bool.false_and,Bool.not_false,Bool.true_or] at hr
   rw [e1 hr.symm]
   simp only [zAb,zA4,zA7,zAa,zA3,↓reduceIte,Option.some.injEq,Nat.reduceEqDiff,reduceCtorEq,Tryz.f4]
   rw [zA2]
   simp -implicitDefEqProofs (maxSteps:=1000000) (disch:=first|rfl|omega|assumption) only [go_sem,g1,g3,ltT,ltF,leT,hk',hs1,hs2,t1,t2,l1,a1,a2,a3,a4,a5,hx,hcl,rf_span,c1]
   done
  ·cases c2:spn x.s0 x.s1 2 8
   ·rw [c1,c2,Bool.false_and,Bool.and_false,Bool.not_false,Bool.true_or] at hr
    rw [e1 hr.symm]
    simp only [zAb,zA4,zA7,zAa,zA3,↓reduceIte,Option.some.injEq,Nat.reduceEqDiff,reduceCtorEq,Tryz.f4]
    rw [zA2]
    simp -implicitDefEqProofs (maxSteps:=1000000) (disch:=first|rfl|omega|assumption) only [go_sem,g1,g3,ltT,ltF,leT,hk',hs1,hs2,t1,t2,l1,a1,a2,a3,a4,a5,hx,hcl,rf_span,c1,c2]
    done
   ·cases c3:spn x.g0 x.g1 0 20
    ·rw [c1,c2,c3,Bool.and_false,Bool.and_false,Bool.not_false,Bool.true_or] at hr
     rw [e1 hr.symm]
     simp only [zAb,zA4,zA7,zAa,zA3,↓reduceIte,Option.some.injEq,Nat.reduceEqDiff,reduceCtorEq,Tryz.f4]
     rw [zA2]
     simp -implicitDefEqProofs (maxSteps:=1000000) (disch:=first|rfl|omega|assumption) only [go_sem,g1,g3,ltT,ltF,leT,hk',hs1,hs2,t1,t2,l1,a1,a2,a3,a4,a5,hx,hcl,rf_span,c1,c2,c3]
     done
    ·rw [c1,c2,c3] at hr
     simp only [Bool.and_self,Bool.not_true,Bool.false_or] at hr
     simp only [zAb,zA4,zA7,zAa,zA3,↓reduceIte,Option.some.injEq,Nat.reduceEqDiff,reduceCtorEq,Tryz.f4]
     rw [zA2]
     simp -implicitDefEqProofs (maxSteps:=1000000) (disch:=first|rfl|omega|assumption) only [go_sem,g1,g3,ltT,ltF,leT,hk',hs1,hs2,t1,t2,l1,a1,a2,a3,a4,a5,hx,hcl,rf_span,c1,c2,c3]
     exact key _ hr _ (by rfl) (by rfl)
theorem rt_l10 {vb vt:AV} {s:Stl} (hvb:SlOk H 6 vb (s.bs.map Blk.av)) (hvt:SlOk H 4 vt (s.ts.map Tch.av)) (hl:s.bs.length≤1000∧s.ts.length≤1000) (r:Bool) :
  ∀ (q j:Nat),j+q=s.ts.length→∀ (G:Heap),(!anyF s.badT j q)=r→∀ E:Env,E.get 1=.ptr H.length 0→E.get 5=I j →
  Option.map (zAi H.length) (zAh cfg0 zA0 ⟨4,none,false,H.length⟩ (zA7 Tryz.f4 10) ⟨E,[],H++(.box (.agg [vb,I s.near,I s.last,vt])::G),none⟩)=some ⟨.ret (.bool r),H,none⟩:=by
 intro q
 obtain ⟨a1,a2,a3,a4,a5⟩:=hvt.fF (d:=(⟨0,0,0,0⟩:Tch))
 have hs1:=hvb.scal
 have hs2:=hvt.scal
 have t1:=hvb.ltn 1
 have t2:=hvt.ltn 1
 have l2:=hvt.len
 rw [List.length_map] at l2
 have hB:=fun (G:Heap) (n:Int)=>rf_Block (hvb.app G) (hvt.app G) hl.1 n
 have hMi:=fun (G:Heap) (n:Int)=>rf_Minute (s:=s) hs1 hs2 n G
 induction q with
 | zero =>
  intro j hj G hr E g1 g5
  have hk':¬ (j:Int)<((s.ts.length:Nat):Int):=by omega
  simp only [anyF,Bool.not_false] at hr
  subst hr
  simp only [zAb,zA4,zA7,zAa,zA3,↓reduceIte,Option.some.injEq,Nat.reduceEqDiff,reduceCtorEq,Tryz.f4]
  rw [zA2]
  simp -implicitDefEqProofs (maxSteps:=1000000) (disch:=first|rfl|omega|assumption) only [go_sem,g1,g5,ltT,ltF,leT,hk',hs1,hs2,t1,t2,l2]
  done
 | succ q ih =>
  intro j hj G hr E g1 g5
  have hk':(j:Int)<((s.ts.length:Nat):Int):=by omega
  have hk2:j<s.ts.length:=by omega
  obtain ⟨x,hx⟩:∃ x,s.ts.getD j ⟨0,0,0,0⟩=x:=⟨_,rfl⟩
  have hcl:∀ x:Tch,x.av.cells=[I x.b,I x.m,I x.h0,I x.h1]:=fun _=>rfl
  have hu:anyF s.badT j (q+1)=(!x.okb s.bs.length s.last||anyF s.badT (j+1) q):=by simp only [anyF,Stl.badT,hx]
  rw [hu] at hr
  have key:=fun G (h:(!anyF s.badT (j+1) q)=r)=>ih (j+1) (by omega) G h
  simp only [Tch.okb] at hr
  cases c1:wi x.b 0 ((s.bs.length:Int)-1)
  ·rw [c1,Bool.false_and,Bool.not_false,Bool.true_or,Bool.not_true] at hr
   subst hr
   simp only [zAb,zA4,zA7,zAa,zA3,↓reduceIte,Option.some.injEq,Nat.reduceEqDiff,reduceCtorEq,Tryz.f4]
   rw [zA2]
   simp -implicitDefEqProofs (maxSteps:=1000000) (disch:=first|rfl|omega|assumption) only [go_sem,g1,g5,ltT,ltF,leT,hk',hs1,hs2,t1,t2,l2,a1,a2,a3,a4,a5,hx,hcl,hB,c1]
   done
  ·cases c2:wi x.m 0 s.last
   ·rw [c1,c2,Bool.false_and,Bool.and_false,Bool.not_false,Bool.true_or,Bool.not_true] at hr
    subst hr
    simp only [zAb,zA4,zA7,zAa,zA3,↓reduceIte,Option.some.injEq,Nat.reduceEqDiff,reduceCtorEq,Tryz.f4]
    rw [zA2]
    simp -implicitDefEqProofs (maxSteps:=1000000) (disch:=first|rfl|omega|assumption) only [go_sem,g1,g5,ltT,ltF,leT,hk',hs1,hs2,t1,t2,l2,a1,a2,a3,a4,a5,hx,hcl,hB,hMi,c1,c2]
    done
   ·cases c3:spn x.h0 x.h1 (-100) 100
    ·rw [c1,c2,c3,Bool.and_false,Bool.and_false,Bool.not_false,Bool.true_or,Bool.not_true] at hr
     subst hr
     simp only [zAb,zA4,zA7,zAa,zA3,↓reduceIte,Option.some.injEq,Nat.reduceEqDiff,reduceCtorEq,Tryz.f4]
     rw [zA2]
     simp -implicitDefEqProofs (maxSteps:=1000000) (disch:=first|rfl|omega|assumption) only [go_sem,g1,g5,ltT,ltF,leT,hk',hs1,hs2,t1,t2,l2,a1,a2,a3,a4,a5,hx,hcl,hB,hMi,rf_span,c1,c2,c3]
     done
    ·rw [c1,c2,c3] at hr
     simp only [Bool.and_self,Bool.not_true,Bool.false_or] at hr
     simp only [zAb,zA4,zA7,zAa,zA3,↓reduceIte,Option.some.injEq,Nat.reduceEqDiff,reduceCtorEq,Tryz.f4]
     rw [zA2]
     simp -implicitDefEqProofs (maxSteps:=1000000) (disch:=first|rfl|omega|assumption) only [go_sem,g1,g5,ltT,ltF,leT,hk',hs1,hs2,t1,t2,l2,a1,a2,a3,a4,a5,hx,hcl,hB,hMi,rf_span,c1,c2,c3]
     exact key _ hr _ (by rfl) (by rfl)
theorem rf_Settle {vb vt:AV} {s:Stl} (hvb:SlOk H 6 vb (s.bs.map Blk.av)) (hvt:SlOk H 4 vt (s.ts.map Tch.av)) (hl:s.bs.length≤1000∧s.ts.length≤1000):zA8 cfg0 zA0 false 4 [.agg [vb,I s.near,I s.last,vt]] H none=some ⟨.ret (.bool s.okB),H,none⟩:=by
 have hk':True:=trivial
 have hs1:=hvb.scal
 have hs2:=hvt.scal
 have l1:=hvb.len
 rw [List.length_map] at l1
 have l2:=hvt.len
 rw [List.length_map] at l2
 simp only [Stl.okB]
 cases c1:wi s.bs.length 1 4
 ·skip
  refine (zA1 fn4 rfl (by simp [Tryz.f4])).trans ?_
  simp -implicitDefEqProofs (maxSteps:=1000000) (disch:=first|rfl|omega|assumption) only [go_sem,ltT,ltF,leT,hs1,hs2,l1,l2,rf_in,c1,Bool.false_and]
  done
 cases c2:wi s.near 0 20
 ·skip
  refine (zA1 fn4 rfl (by simp [Tryz.f4])).trans ?_
  simp -implicitDefEqProofs (maxSteps:=1000000) (disch:=first|rfl|omega|assumption) only [go_sem,ltT,ltF,leT,hs1,hs2,l1,l2,rf_in,c1,c2,Bool.false_and,Bool.and_false]
  done
 cases c3:wi s.last 1 60
 ·skip
  refine (zA1 fn4 rfl (by simp [Tryz.f4])).trans ?_
  simp -implicitDefEqProofs (maxSteps:=1000000) (disch:=first|rfl|omega|assumption) only [go_sem,ltT,ltF,leT,hs1,hs2,l1,l2,rf_in,c1,c2,c3,Bool.false_and,Bool.and_false]
  done
 by_cases c4:(s.ts.length:Int)≤6
 ·have c4':¬ (6:Int)<s.ts.length:=by omega
  simp only [c4,decide_true,Bool.true_and]
  have q10:=rt_l10 hvb hvt hl (!anyF s.badT 0 s.ts.length) s.ts.length 0 (by omega) [] rfl
  have q4:=rt_l4 hvb hvt hl (anyF s.badB 0 s.bs.length)
  cases c5:anyF s.badB 0 s.bs.length
  ·rw [c5] at q4
   simp only [Bool.not_false,Bool.true_and]
   refine (zA1 fn4 rfl (by simp [Tryz.f4])).trans ?_
   simp -implicitDefEqProofs (maxSteps:=1000000) (disch:=first|rfl|omega|assumption) only [go_sem,ltT,ltF,leT,hs1,hs2,l1,l2,rf_in,c1,c2,c3,c4']
   refine q4 _ _ (fun _ E g1=>?_) (fun h=>by cases h) s.bs.length 0 (by omega) [] c5 _ (by rfl) (by rfl)
   simp -implicitDefEqProofs (maxSteps:=1000000) (disch:=first|rfl|omega|assumption) only [go_sem,g1,ltT,ltF,leT,hk']
   exact q10 _ (by exact g1) (by rfl)
  ·rw [c5] at q4
   simp only [Bool.not_true,Bool.false_and]
   refine (zA1 fn4 rfl (by simp [Tryz.f4])).trans ?_
   simp -implicitDefEqProofs (maxSteps:=1000000) (disch:=first|rfl|omega|assumption) only [go_sem,ltT,ltF,leT,hs1,hs2,l1,l2,rf_in,c1,c2,c3,c4']
   exact q4 _ _ (fun h=>by cases h) (fun _=>rfl) s.bs.length 0 (by omega) [] c5 _ (by rfl) (by rfl)
 ·have c4':(6:Int)<s.ts.length:=by omega
  simp only [c4,decide_false,Bool.false_and,Bool.and_false]
  refine (zA1 fn4 rfl (by simp [Tryz.f4])).trans ?_
  simp -implicitDefEqProofs (maxSteps:=1000000) (disch:=first|rfl|omega|assumption) only [go_sem,ltT,ltF,leT,hs1,hs2,l1,l2,rf_in,c1,c2,c3,c4']
  done
theorem rf_fallsP (x k:Int) (H:Heap) (h0:0≤x) (h1:x≤1000000) (k1:1≤k) (k2:k≤1000000):zA8 cfg0 zA0 false 36 [I x,I k] H none=some ⟨.ret (I (zAm x k)),H,none⟩:=by
 have hn:¬ x<0:=by omega
 have hk:¬ k=0:=by omega
 obtain ⟨q1,q2⟩:=tdiv_bd (a:=x+k-1) (k:=k) (by omega) k1
 have e3:IntKind.i64.wrap ((x+k-1).tdiv k)=(x+k-1).tdiv k:=w64 (by omega) (by omega)
 have e4:IntKind.i64.wrap (x-(x+k-1).tdiv k)=x-(x+k-1).tdiv k:=w64 (by omega) (by omega)
 have e5:zAm x k=x-(x+k-1).tdiv k:=by simp only [zAm,if_neg hn]
 rw [e5]
 refine (zA1 fn36 rfl (by simp [Tryz.f36])).trans ?_
 simp -implicitDefEqProofs (maxSteps:=1000000) (disch:=first|rfl|omega|assumption) only [go_sem,ltT,ltF,leT,hn,hk,e3,e4]
 done
theorem rf_falls (x k:Int) (H:Heap) (h0 : -1000000≤x) (h1:x≤1000000) (k1:1≤k) (k2:k≤1000000):zA8 cfg0 zA0 false 36 [I x,I k] H none=some ⟨.ret (I (zAm x k)),H,none⟩:=by
 by_cases hx:0≤x
 ·exact rf_fallsP x k H hx h1 k1 k2
 ·have hn:x<0:=by omega
  have hn2:¬ -x<0:=by omega
  obtain ⟨q1,q2⟩:=tdiv_bd (a := -x+k-1) (k:=k) (by omega) k1
  have e1:IntKind.i64.wrap (0-x) = -x:=by rw [w64 (by omega) (by omega)];omega
  have e2:IntKind.i64.wrap (0-zAm (-x) k)=zAm x k:=by
   simp only [zAm,if_pos hn,if_neg hn2]
   rw [w64 (by omega) (by omega)];omega
  have hp:=rf_fallsP (-x) k H (by omega) (by omega) k1 k2
  refine (zA1 fn36 rfl (by simp [Tryz.f36])).trans ?_
  simp -implicitDefEqProofs (maxSteps:=1000000) (disch:=first|rfl|omega|assumption) only [go_sem,ltT,ltF,leT,hn,e1,hp,e2]
  done
def hsF (s:Stl) (hs:List Int) (blk m:Int) (acc:Int) (j q:Nat):Int:=foldF (fun n i=>if (s.ts.getD i ⟨0,0,0,0⟩).b=blk∧(s.ts.getD i ⟨0,0,0,0⟩).m=m then n+hs.getD i 0 else n) acc j q
def inZ (s:Stl) (hs:List Int) (blk k x0:Int):Nat→Int
 | 0=>hsF s hs blk 0 x0 0 s.ts.length
 | n+1=>hsF s hs blk ((n+1:Nat):Int) (zAm (inZ s hs blk k x0 n) k) 0 s.ts.length
theorem hsF_bd (s:Stl) {hs:List Int} (hb:∀ i,-100≤hs.getD i 0∧hs.getD i 0≤100) (blk m:Int):∀ (q j:Nat) (acc:Int),acc-100*q≤hsF s hs blk m acc j q∧hsF s hs blk m acc j q≤acc+100*q
 | 0,j,acc=>by simp [hsF,foldF]
 | q+1,j,acc=>by
  have e:hsF s hs blk m acc j (q+1)=hsF s hs blk m (if (s.ts.getD j ⟨0,0,0,0⟩).b=blk∧(s.ts.getD j ⟨0,0,0,0⟩).m=m then acc+hs.getD j 0 else acc) (j+1) q:=rfl
  have h1:=hsF_bd s hb blk m q (j+1) (if (s.ts.getD j ⟨0,0,0,0⟩).b=blk∧(s.ts.getD j ⟨0,0,0,0⟩).m=m then acc+hs.getD j 0 else acc)
  have h2:=hb j
  rw [e]
  split at h1<;>split<;>first | omega | contradiction
theorem inZ_bd (s:Stl) (hl:s.ts.length≤7) {hs:List Int} (hb:∀ i,-100≤hs.getD i 0∧hs.getD i 0≤100) {blk k x0:Int} (hk:1≤k) (hx : -100≤x0∧x0≤100):∀ n:Nat,-(800+700*n)≤inZ s hs blk k x0 n∧inZ s hs blk k x0 n≤800+700*n
 | 0=>by
  have:=hsF_bd s hb blk 0 s.ts.length 0 x0
  simp only [inZ];omega
 | n+1=>by
  have ih:=inZ_bd s hl hb hk hx (blk:=blk) n
  obtain ⟨q1,q2⟩:=fallsZ_bd (x:=inZ s hs blk k x0 n) hk
  have:=hsF_bd s hb blk ((n+1:Nat):Int) s.ts.length 0 (zAm (inZ s hs blk k x0 n) k)
  simp only [inZ]
  rcases Int.le_total 0 (inZ s hs blk k x0 n) with h | h
  ·have:=q1 h;omega
  ·have:=q2 h;omega
theorem in_l8 {vb vt vh:AV} {s:Stl} (hvb:SlOk H 6 vb (s.bs.map Blk.av)) (hvt:SlOk H 4 vt (s.ts.map Tch.av)) (hl:s.ts.length≤7) {hs:List Int} (hvh:SlOk H 1 vh (hs.map I)) (hhl:hs.length=s.ts.length) (hb:∀ i,-100≤hs.getD i 0∧hs.getD i 0≤100) (blk mm k:Int) (m:Nat) (r:Int) (K:List Item) (R:Option Done) (hK:∀ E:Env,E.get 1=I blk→E.get 2=I mm→E.get 4=I k→E.get 5=vh→E.get 6=.ptr H.length 0→E.get 13=I r→E.get 14=I m→Option.map (zAi H.length) (zAh cfg0 zA0 ⟨12,none,false,H.length⟩ K ⟨E,[],H++[.box (.agg [vb,I s.near,I s.last,vt])],none⟩)=R)  :
  ∀ (q j:Nat),j+q=s.ts.length→∀ (acc:Int),-100000-100*(j:Int)≤acc∧acc≤100000+100*(j:Int)→hsF s hs blk m acc j q=r→∀ E:Env,E.get 1=I blk→E.get 2=I mm→E.get 4=I k→E.get 5=vh→E.get 6=.ptr H.length 0→E.get 13=I acc→E.get 14=I m→E.get 15=I j →
  Option.map (zAi H.length) (zAh cfg0 zA0 ⟨12,none,false,H.length⟩ (zAb Tryz.f12 8::.inBlock 2::K) ⟨E,[],H++[.box (.agg [vb,I s.near,I s.last,vt])],none⟩)=R:=by
 intro q
 obtain ⟨a1,a2,a3,a4,a5⟩:=hvt.fF (d:=(⟨0,0,0,0⟩:Tch))
 obtain ⟨c1,c2,c3,c4⟩:=hvh.fI
 have hs1:=hvb.scal
 have hs2:=hvt.scal
 have hs3:=hvh.scal
 have l2:=hvt.len
 rw [List.length_map] at l2
 rw [hhl] at c1 c2 c3 c4
 induction q with
 | zero =>
  intro j hj acc ha hr E g1 g2 g4 g5 g6 g13 g14 g15
  have hk':¬ (j:Int)<((s.ts.length:Nat):Int):=by omega
  have hr1:acc=r:=hr
  subst hr1
  simp only [zAb,zA4,zA7,zAa,zA3,↓reduceIte,Option.some.injEq,Nat.reduceEqDiff,reduceCtorEq,Tryz.f12]
  rw [zA2]
  simp -implicitDefEqProofs (maxSteps:=1000000) (disch:=first|rfl|omega|assumption) only [go_sem,g1,g2,g4,g5,g6,g13,g14,g15,ltT,ltF,leT,hk',hs1,hs2,hs3,l2]
  exact hK _ (by exact g1) (by exact g2) (by exact g4) (by exact g5) (by exact g6) (by exact g13) (by exact g14)
 | succ q ih =>
  intro j hj acc ha hr E g1 g2 g4 g5 g6 g13 g14 g15
  have hk':(j:Int)<((s.ts.length:Nat):Int):=by omega
  have hk2:j<s.ts.length:=by omega
  obtain ⟨x,hx⟩:∃ x,s.ts.getD j ⟨0,0,0,0⟩=x:=⟨_,rfl⟩
  have hcl:∀ x:Tch,x.av.cells=[I x.b,I x.m,I x.h0,I x.h1]:=fun _=>rfl
  have hu:hsF s hs blk m acc j (q+1)=hsF s hs blk m (if x.b=blk∧x.m=m then acc+hs.getD j 0 else acc) (j+1) q:=by rw [← hx];rfl
  rw [hu] at hr
  have hbj:=hb j
  obtain ⟨y,hy⟩:∃ y,hs.getD j 0=y:=⟨_,rfl⟩
  rw [hy] at hr hbj
  by_cases h1:x.b=blk
  ·have b1:(x.b==blk)=true:=by simp [h1]
   by_cases h2:x.m=(m:Int)
   ·have b2:(x.m==(m:Int))=true:=by simp [h2]
    rw [if_pos ⟨h1,h2⟩] at hr
    have key:=ih (j+1) (by omega) (acc+y) (by omega) hr
    simp only [zAb,zA4,zA7,zAa,zA3,↓reduceIte,Option.some.injEq,Nat.reduceEqDiff,reduceCtorEq,Tryz.f12]
    rw [zA2]
    simp -implicitDefEqProofs (maxSteps:=1000000) (disch:=first|rfl|omega|assumption) only [go_sem,g1,g2,g4,g5,g6,g13,g14,g15,ltT,ltF,leT,hk',hs1,hs2,hs3,l2,a1,a2,a3,a4,a5,hx,hcl,b1,b2,c1,c2,c3,c4,hy]
    exact key _ (by exact g1) (by exact g2) (by exact g4) (by exact g5) (by exact g6) (by rfl) (by exact g14) (by rfl)
   ·have b2:(x.m==(m:Int))=false:=by simp [h2]
    rw [if_neg (by simp [h2])] at hr
    have key:=ih (j+1) (by omega) acc (by omega) hr
    simp only [zAb,zA4,zA7,zAa,zA3,↓reduceIte,Option.some.injEq,Nat.reduceEqDiff,reduceCtorEq,Tryz.f12]
    rw [zA2]
    simp -implicitDefEqProofs (maxSteps:=1000000) (disch:=first|rfl|omega|assumption) only [go_sem,g1,g2,g4,g5,g6,g13,g14,g15,ltT,ltF,leT,hk',hs1,hs2,hs3,l2,a1,a2,a3,a4,a5,hx,hcl,b1,b2]
    exact key _ (by exact g1) (by exact g2) (by exact g4) (by exact g5) (by exact g6) (by exact g13) (by exact g14) (by rfl)
  ·have b1:(x.b==blk)=false:=by simp [h1]
   rw [if_neg (by simp [h1])] at hr
   have key:=ih (j+1) (by omega) acc (by omega) hr
   simp only [zAb,zA4,zA7,zAa,zA3,↓reduceIte,Option.some.injEq,Nat.reduceEqDiff,reduceCtorEq,Tryz.f12]
   rw [zA2]
   simp -implicitDefEqProofs (maxSteps:=1000000) (disch:=first|rfl|omega|assumption) only [go_sem,g1,g2,g4,g5,g6,g13,g14,g15,ltT,ltF,leT,hk',hs1,hs2,hs3,l2,a1,a2,a3,a4,a5,hx,hcl,b1]
   exact key _ (by exact g1) (by exact g2) (by exact g4) (by exact g5) (by exact g6) (by exact g13) (by exact g14) (by rfl)
theorem in_l3 {vb vt vh:AV} {s:Stl} (hvb:SlOk H 6 vb (s.bs.map Blk.av)) (hvt:SlOk H 4 vt (s.ts.map Tch.av)) (hl:s.ts.length≤7) {hs:List Int} (hvh:SlOk H 1 vh (hs.map I)) (hhl:hs.length=s.ts.length) (hb:∀ i,-100≤hs.getD i 0∧hs.getD i 0≤100) (blk:Int) {k x0:Int} (hk:1≤k∧k≤100) (hx : -100≤x0∧x0≤100) (M:Nat) (hM:M≤100) :
  ∀ (q j:Nat),j+q=M+1→∀ (acc:Int),acc=(if j=0 then x0 else inZ s hs blk k x0 (j-1))→∀ E:Env,E.get 1=I blk→E.get 2=I M→E.get 4=I k→E.get 5=vh→E.get 6=.ptr H.length 0→E.get 13=I acc→E.get 14=I j →
  Option.map (zAi H.length) (zAh cfg0 zA0 ⟨12,none,false,H.length⟩ (zA7 Tryz.f12 3) ⟨E,[],H++[.box (.agg [vb,I s.near,I s.last,vt])],none⟩)=some ⟨.ret (I (inZ s hs blk k x0 M)),H,none⟩:=by
 intro q
 have hs1:=hvb.scal
 have hs2:=hvt.scal
 have hs3:=hvh.scal
 induction q with
 | zero =>
  intro j hj acc ha E g1 g2 g4 g5 g6 g13 g14
  have hk':¬ (j:Int)<((M+1:Nat):Int):=by omega
  have ej:j=M+1:=by omega
  subst ej
  rw [if_neg (by omega),Nat.add_sub_cancel] at ha
  subst ha
  simp only [zAb,zA4,zA7,zAa,zA3,↓reduceIte,Option.some.injEq,Nat.reduceEqDiff,reduceCtorEq,Tryz.f12]
  rw [zA2]
  have z:¬ ((M+1:Nat):Int)≤(M:Int):=by omega
  simp -implicitDefEqProofs (maxSteps:=1000000) (disch:=first|rfl|omega|assumption) only [go_sem,g1,g2,g4,g5,g6,g13,g14,ltT,ltF,leT,hk',hs1,hs2,hs3,z]
  done
 | succ q ih =>
  intro j hj acc ha E g1 g2 g4 g5 g6 g13 g14
  have hk':(j:Int)<((M+1:Nat):Int):=by omega
  have hk2:j<M+1:=by omega
  have z:(j:Int)≤(M:Int):=by omega
  by_cases hj:j=0
  ·subst hj
   rw [if_pos rfl] at ha
   subst ha
   have q8:=in_l8 hvb hvt hl hvh hhl hb blk M k 0 (hsF s hs blk 0 acc 0 s.ts.length)
   have key:=ih 1 (by omega) (hsF s hs blk 0 acc 0 s.ts.length) (by rw [if_neg (by omega)];rfl)
   simp only [zAb,zA4,zA7,zAa,zA3,↓reduceIte,Option.some.injEq,Nat.reduceEqDiff,reduceCtorEq,Tryz.f12]
   rw [zA2]
   simp -implicitDefEqProofs (maxSteps:=1000000) (disch:=first|rfl|omega|assumption) only [go_sem,g1,g2,g4,g5,g6,g13,g14,ltT,ltF,leT,hk',hs1,hs2,hs3,z,show ¬ (0:Int)<((0:Nat):Int) by omega]
   refine q8 _ _ (fun E l1 l2 l4 l5 l6 l13 l14=>?_) s.ts.length 0 (by omega) acc (by omega) rfl _ (by exact g1) (by exact g2) (by exact g4) (by exact g5) (by exact g6) (by exact g13) (by exact g14) (by rfl)
   simp -implicitDefEqProofs (maxSteps:=1000000) (disch:=first|rfl|omega|assumption) only [go_sem,g1,g2,g4,g5,g6,g13,g14,hk',l1,l2,l4,l5,l6,l13,l14]
   exact key _ (by exact l1) (by exact l2) (by exact l4) (by exact l5) (by exact l6) (by exact l13) (by rfl)
  ·obtain ⟨n,rfl⟩:∃ n,j=n+1:=⟨j-1,by omega⟩
   rw [if_neg (by omega),Nat.add_sub_cancel] at ha
   have hbd:=inZ_bd s hl hb hk.1 hx (blk:=blk) n
   rw [← ha] at hbd
   have hff:=fun G=>rf_falls acc k G (by omega) (by omega) hk.1 (by omega)
   obtain ⟨q1,q2⟩:=fallsZ_bd (x:=acc) hk.1
   have hfb : -100000≤zAm acc k∧zAm acc k≤100000:=by
    rcases Int.le_total 0 acc with h | h
    ·have:=q1 h;omega
    ·have:=q2 h;omega
   have hin:inZ s hs blk k x0 (n+1)=hsF s hs blk ((n+1:Nat):Int) (zAm acc k) 0 s.ts.length:=by rw [ha];rfl
   have q8:=in_l8 hvb hvt hl hvh hhl hb blk M k (n+1) (inZ s hs blk k x0 (n+1))
   have key:=ih (n+2) (by omega) (inZ s hs blk k x0 (n+1)) (by rw [if_neg (by omega)];rfl)
   generalize zAm acc k=y at *
   simp only [zAb,zA4,zA7,zAa,zA3,↓reduceIte,Option.some.injEq,Nat.reduceEqDiff,reduceCtorEq,Tryz.f12]
   rw [zA2]
   simp -implicitDefEqProofs (maxSteps:=1000000) (disch:=first|rfl|omega|assumption) only [go_sem,g1,g2,g4,g5,g6,g13,g14,ltT,ltF,leT,hk',hs1,hs2,hs3,z,hff,show (0:Int)<((n+1:Nat):Int) by omega]
   refine q8 _ _ (fun E l1 l2 l4 l5 l6 l13 l14=>?_) s.ts.length 0 (by omega) y (by omega) hin.symm _ (by exact g1) (by exact g2) (by exact g4) (by exact g5) (by exact g6) (by rfl) (by exact g14) (by rfl)
   simp -implicitDefEqProofs (maxSteps:=1000000) (disch:=first|rfl|omega|assumption) only [go_sem,g1,g2,g4,g5,g6,g13,g14,hk',l1,l2,l4,l5,l6,l13,l14]
   exact key _ (by exact l1) (by exact l2) (by exact l4) (by exact l5) (by exact l6) (by exact l13) (by rfl)
theorem rf_In {vb vt vh:AV} {s:Stl} (hvb:SlOk H 6 vb (s.bs.map Blk.av)) (hvt:SlOk H 4 vt (s.ts.map Tch.av)) (hl:s.ts.length≤7) {hs:List Int} (hvh:SlOk H 1 vh (hs.map I)) (hhl:hs.length=s.ts.length) (hb:∀ i,-100≤hs.getD i 0∧hs.getD i 0≤100) (blk:Int) {k x0:Int} (hk:1≤k∧k≤100) (hx : -100≤x0∧x0≤100) (M:Nat) (hM:M≤100) :
  zA8 cfg0 zA0 false 12 [.agg [vb,I s.near,I s.last,vt],I blk,I M,I x0,I k,vh] H none=some ⟨.ret (I (inZ s hs blk k x0 M)),H,none⟩:=by
 have hs1:=hvb.scal
 have hs2:=hvt.scal
 have hs3:=hvh.scal
 have key:=in_l3 hvb hvt hl hvh hhl hb blk hk hx M hM (M+1) 0 (by omega) x0 (by rw [if_pos rfl])
 refine (zA1 fn12 rfl (by simp [Tryz.f12])).trans ?_
 simp -implicitDefEqProofs (maxSteps:=1000000) (disch:=first|rfl|omega|assumption) only [go_sem,ltT,ltF,leT,hs1,hs2,hs3]
 exact key _ (by rfl) (by rfl) (by rfl) (by rfl) (by rfl) (by rfl) (by rfl)
theorem rf_Show {mk n1 n2 c1 c2:Int} (hm:0≤mk∧mk≤1000) (vr:AV) (hr:vr.scalar=true) {n c t:Int} (hn : -100000≤n∧n≤100000) (hc:0≤c∧c≤1000) (ht : -100000≤t∧t≤100000) (H:Heap) :
  zA8 cfg0 zA0 false 9 [.agg [I mk,I n1,I n2,I c1,I c2,vr],.agg [I n,I c],I t] H none=some ⟨.ret (I (n+grW mk c t)),H,none⟩:=by
 have hk':True:=trivial
 have h1:=mul_bd hm hc
 have e1:IntKind.i64.wrap (mk*c)=mk*c:=w64 (by omega) (by omega)
 have h2 : -100000000000≤mk*c*t∧mk*c*t≤100000000000:=by
  have a:mk*c*t≤1000000*100000:=by
   rcases Int.le_total 0 t with h | h
   ·have:=Int.mul_le_mul h1.2 ht.2 h (by omega);omega
   ·have:=Int.mul_nonneg h1.1 (show 0 ≤ -t by omega)
    rw [Int.mul_neg] at this;omega
  have b : -(1000000*100000)≤mk*c*t:=by
   rcases Int.le_total 0 t with h | h
   ·have:=Int.mul_nonneg h1.1 h;omega
   ·have:=Int.mul_le_mul h1.2 (show -t≤100000 by omega) (by omega) (show (0:Int)≤1000000 by omega)
    rw [Int.mul_neg] at this;omega
  omega
 have e2:IntKind.i64.wrap (mk*c*t)=mk*c*t:=w64 (by omega) (by omega)
 have hg:=grW_div mk c t
 rw [hg]
 obtain ⟨x,hxe⟩:∃ x,mk*c*t=x:=⟨_,rfl⟩
 rw [hxe] at e2 h2 ⊢
 by_cases hx:x<0
 ·have e3:IntKind.i64.wrap (9-x)=9-x:=w64 (by omega) (by omega)
  have e4:(9-x).tdiv 10=(9-x)/10:=Int.tdiv_eq_ediv_of_nonneg (by omega)
  have e5:IntKind.i64.wrap ((9-x)/10)=(9-x)/10:=w64 (by omega) (by omega)
  have e6:IntKind.i64.wrap (n-(9-x)/10)=n+x/10:=by rw [w64 (by omega) (by omega)];omega
  refine (zA1 fn9 rfl (by simp [Tryz.f9])).trans ?_
  simp -implicitDefEqProofs (maxSteps:=1000000) (disch:=first|rfl|omega|assumption) only [go_sem,ltT,ltF,leT,hr,e1,hxe,e2,hx,e3,e4,e5,e6]
  done
 ·have e4:x.tdiv 10=x/10:=Int.tdiv_eq_ediv_of_nonneg (by omega)
  have e5:IntKind.i64.wrap (x/10)=x/10:=w64 (by omega) (by omega)
  have e6:IntKind.i64.wrap (n+x/10)=n+x/10:=w64 (by omega) (by omega)
  refine (zA1 fn9 rfl (by simp [Tryz.f9])).trans ?_
  simp -implicitDefEqProofs (maxSteps:=1000000) (disch:=first|rfl|omega|assumption) only [go_sem,ltT,ltF,leT,hr,e1,hxe,e2,hx,e4,e5,e6]
  done
theorem r2_in (n lo hi:Int) (H:Heap):zA8 cfg0 zA0 false 29 [I n,I lo,I hi] H none=some ⟨.ret (.bool (wi n lo hi)),H,none⟩:=by
 refine (zA1 fn29 rfl (by simp [Tryz.f29])).trans ?_
 by_cases h1:lo≤n<;>simp -implicitDefEqProofs only [go_sem,h1,wi]
theorem r2_span (lo hi low high wide:Int) (hl : -100000≤low∧low≤100000) (hh : -100000≤high∧high≤100000) (H:Heap):zA8 cfg0 zA0 false 30 [.agg [I lo,I hi],I low,I high,I wide] H none=some ⟨.ret (.bool (spW lo hi low high wide)),H,none⟩:=by
 simp only [spW]
 by_cases h1:low≤lo
 ·by_cases h2:lo≤hi
  ·by_cases h3:hi≤high
   ·skip
    refine (zA1 fn30 rfl (by simp [Tryz.f30])).trans ?_
    simp -implicitDefEqProofs (maxSteps:=1000000) (disch:=first|rfl|omega|assumption) only [go_sem,ltT,ltF,leT,h1,h2,h3,decide_true,Bool.true_and]
    done
   ·skip
    refine (zA1 fn30 rfl (by simp [Tryz.f30])).trans ?_
    simp -implicitDefEqProofs (maxSteps:=1000000) (disch:=first|rfl|omega|assumption) only [go_sem,ltT,ltF,leT,h1,h2,h3,decide_true,Bool.true_and,decide_false,Bool.false_and]
    done
  ·skip
   refine (zA1 fn30 rfl (by simp [Tryz.f30])).trans ?_
   simp -implicitDefEqProofs (maxSteps:=1000000) (disch:=first|rfl|omega|assumption) only [go_sem,ltT,ltF,leT,h1,h2,decide_true,Bool.true_and,decide_false,Bool.false_and]
   done
 ·skip
  refine (zA1 fn30 rfl (by simp [Tryz.f30])).trans ?_
  simp -implicitDefEqProofs (maxSteps:=1000000) (disch:=first|rfl|omega|assumption) only [go_sem,ltT,ltF,leT,h1,decide_false,Bool.false_and]
  done
def Rd.okB (r:Rd):Bool:=spW r.w1 r.w2 (-100) 100 4&&spW r.s1 r.s2 (-30000) 30000 60000
def Wm.badR (w:Wm) (i:Nat):Bool:=!(w.rs.getD i rd0).okB
def Wm.okB (w:Wm):Bool:=wi w.mark 1 100&&(spW w.n1 w.n2 (-1000) 1000 24&&(spW w.c1 w.c2 0 20 3&&(decide ((w.rs.length:Int)≤5)&&!anyF w.badR 0 w.rs.length)))
theorem okW_ok {w:Wm} (h:w.okB=true):w.Ok:=by
 simp only [Wm.okB,Bool.and_eq_true,wi_iff,decide_eq_true_eq,Bool.not_eq_true',spW] at h
 obtain ⟨h1,h2,h3,h4,h5⟩:=h
 refine ⟨h1,by omega,by omega,by omega,fun r hr=>?_⟩
 obtain ⟨i,hi,rfl⟩:=mem_getD (d:=rd0) hr
 have:=anyF_all _ _ h5 i (by omega) (by omega)
 simp only [Wm.badR,Rd.okB,spW,Bool.not_eq_false',Bool.and_eq_true,decide_eq_true_eq] at this
 simp only [Rd.Ok]
 omega
theorem rw_l4 {vr:AV} {w:Wm} (hvr:SlOk H 4 vr (w.rs.map rdA)) (hl:w.rs.length≤1000) (r:Bool) :
  ∀ (q j:Nat),j+q=w.rs.length→(!anyF w.badR j q)=r→∀ E:Env,E.get 1=.ptr H.length 0→E.get 3=I j →
  Option.map (zAi H.length) (zAh cfg0 zA0 ⟨8,none,false,H.length⟩ (zA7 Tryz.f8 4) ⟨E,[],H++[.box (.agg [I w.mark,I w.n1,I w.n2,I w.c1,I w.c2,vr])],none⟩)=some ⟨.ret (.bool r),H,none⟩:=by
 intro q
 obtain ⟨a1,a2,a3,a4,a5⟩:=hvr.fF (d:=rd0)
 have hs1:=hvr.scal
 have l2:=hvr.len
 rw [List.length_map] at l2
 have hsp:=fun (a b:Int) (G:Heap)=>r2_span a b (-100) 100 4 (by omega) (by omega) G
 have hsq:=fun (a b:Int) (G:Heap)=>r2_span a b (-30000) 30000 60000 (by omega) (by omega) G
 induction q with
 | zero =>
  intro j hj hr E g1 g3
  have hk':¬ (j:Int)<((w.rs.length:Nat):Int):=by omega
  simp only [anyF,Bool.not_false] at hr
  subst hr
  simp only [zAb,zA4,zA7,zAa,zA3,↓reduceIte,Option.some.injEq,Nat.reduceEqDiff,reduceCtorEq,Tryz.f8]
  rw [zA2]
  simp -implicitDefEqProofs (maxSteps:=1000000) (disch:=first|rfl|omega|assumption) only [go_sem,g1,g3,ltT,ltF,leT,hk',hs1,l2]
  done
 | succ q ih =>
  intro j hj hr E g1 g3
  have hk':(j:Int)<((w.rs.length:Nat):Int):=by omega
  have hk2:j<w.rs.length:=by omega
  obtain ⟨x,hx⟩:∃ x,w.rs.getD j rd0=x:=⟨_,rfl⟩
  have hcl:∀ x:Rd,(rdA x).cells=[I x.w1,I x.w2,I x.s1,I x.s2]:=fun _=>rfl
  have hu:anyF w.badR j (q+1)=(!x.okB||anyF w.badR (j+1) q):=by simp only [anyF,Wm.badR,hx]
  rw [hu] at hr
  simp only [Rd.okB] at hr
  cases c1:spW x.w1 x.w2 (-100) 100 4
  ·rw [c1,Bool.false_and,Bool.not_false,Bool.true_or,Bool.not_true] at hr
   subst hr
   simp only [zAb,zA4,zA7,zAa,zA3,↓reduceIte,Option.some.injEq,Nat.reduceEqDiff,reduceCtorEq,Tryz.f8]
   rw [zA2]
   simp -implicitDefEqProofs (maxSteps:=1000000) (disch:=first|rfl|omega|assumption) only [go_sem,g1,g3,ltT,ltF,leT,hk',hs1,l2,a1,a2,a3,a4,a5,hx,hcl,hsp,hsq,c1]
   done
  ·cases c2:spW x.s1 x.s2 (-30000) 30000 60000
   ·rw [c1,c2,Bool.and_false,Bool.not_false,Bool.true_or,Bool.not_true] at hr
    subst hr
    simp only [zAb,zA4,zA7,zAa,zA3,↓reduceIte,Option.some.injEq,Nat.reduceEqDiff,reduceCtorEq,Tryz.f8]
    rw [zA2]
    simp -implicitDefEqProofs (maxSteps:=1000000) (disch:=first|rfl|omega|assumption) only [go_sem,g1,g3,ltT,ltF,leT,hk',hs1,l2,a1,a2,a3,a4,a5,hx,hcl,hsp,hsq,c1,c2]
    done
   ·rw [c1,c2] at hr
    simp only [Bool.and_self,Bool.not_true,Bool.false_or] at hr
    simp only [zAb,zA4,zA7,zAa,zA3,↓reduceIte,Option.some.injEq,Nat.reduceEqDiff,reduceCtorEq,Tryz.f8]
    rw [zA2]
    simp -implicitDefEqProofs (maxSteps:=1000000) (disch:=first|rfl|omega|assumption) only [go_sem,g1,g3,ltT,ltF,leT,hk',hs1,l2,a1,a2,a3,a4,a5,hx,hcl,hsp,hsq,c1,c2]
    exact ih (j+1) (by omega) hr _ (by exact g1) (by rfl)
theorem r2_Warm {vr:AV} {w:Wm} (hvr:SlOk H 4 vr (w.rs.map rdA)) (hl:w.rs.length≤1000):zA8 cfg0 zA0 false 8 [.agg [I w.mark,I w.n1,I w.n2,I w.c1,I w.c2,vr]] H none=some ⟨.ret (.bool w.okB),H,none⟩:=by
 have hk':True:=trivial
 have hs1:=hvr.scal
 have l2:=hvr.len
 rw [List.length_map] at l2
 have h1:=fun (a b:Int) (G:Heap)=>r2_span a b (-1000) 1000 24 (by omega) (by omega) G
 have h2:=fun (a b:Int) (G:Heap)=>r2_span a b 0 20 3 (by omega) (by omega) G
 simp only [Wm.okB]
 cases c1:wi w.mark 1 100
 ·skip
  refine (zA1 fn8 rfl (by simp [Tryz.f8])).trans ?_
  simp -implicitDefEqProofs (maxSteps:=1000000) (disch:=first|rfl|omega|assumption) only [go_sem,ltT,ltF,leT,hs1,l2,r2_in,c1,Bool.false_and]
  done
 cases c2:spW w.n1 w.n2 (-1000) 1000 24
 ·skip
  refine (zA1 fn8 rfl (by simp [Tryz.f8])).trans ?_
  simp -implicitDefEqProofs (maxSteps:=1000000) (disch:=first|rfl|omega|assumption) only [go_sem,ltT,ltF,leT,hs1,l2,r2_in,c1,h1,h2,c2,Bool.false_and,Bool.and_false]
  done
 cases c3:spW w.c1 w.c2 0 20 3
 ·skip
  refine (zA1 fn8 rfl (by simp [Tryz.f8])).trans ?_
  simp -implicitDefEqProofs (maxSteps:=1000000) (disch:=first|rfl|omega|assumption) only [go_sem,ltT,ltF,leT,hs1,l2,r2_in,c1,h1,h2,c2,c3,Bool.false_and,Bool.and_false]
  done
 by_cases c4:(w.rs.length:Int)≤5
 ·have c4':¬ (5:Int)<w.rs.length:=by omega
  simp only [c4,decide_true,Bool.true_and]
  have key:=rw_l4 hvr hl (!anyF w.badR 0 w.rs.length) w.rs.length 0 (by omega) rfl
  refine (zA1 fn8 rfl (by simp [Tryz.f8])).trans ?_
  simp -implicitDefEqProofs (maxSteps:=1000000) (disch:=first|rfl|omega|assumption) only [go_sem,ltT,ltF,leT,hs1,l2,r2_in,c1,h1,h2,c2,c3,c4']
  exact key _ (by rfl) (by rfl)
 ·have c4':(5:Int)<w.rs.length:=by omega
  simp only [c4,decide_false,Bool.false_and,Bool.and_false]
  refine (zA1 fn8 rfl (by simp [Tryz.f8])).trans ?_
  simp -implicitDefEqProofs (maxSteps:=1000000) (disch:=first|rfl|omega|assumption) only [go_sem,ltT,ltF,leT,hs1,l2,r2_in,c1,h1,h2,c2,c3,c4']
  done
theorem touch_len (s:Stl) (n m x:Int):(s.touch n m x).ts.length=s.ts.length+1:=by simp [Stl.touch]
theorem rf_Touched {vb vt:AV} {s:Stl} (hvb:SlOk H 6 vb (s.bs.map Blk.av)) (hvt:SlOk H 4 vt (s.ts.map Tch.av)) (hl2:s.ts.length≤1000) (n m x:Int) :
  zA8 cfg0 zA0 false 16 [.agg [vb,I s.near,I s.last,vt],I n,I m,I x] H none=some ⟨.ret (.agg [vb,I s.near,I s.last,.sl false ((s.touch n m x).ts.map Tch.av)]),H,none⟩:=by
 have hk':True:=trivial
 have sb:=hvb.scal
 have st:=hvt.scal
 have h1:zBo (H++[.box (.agg [vb,I s.near,I s.last,vt]),.box (.agg [.sl true [],I 0,I 0,.sl true []])]) 4 true (.sl true []) (s.ts.map Tch.av)=some (.gsl (H.length+2) s.ts.length,H++[.box (.agg [vb,I s.near,I s.last,vt]),.box (.agg [.sl true [],I 0,I 0,.sl true []]),.grow 4 (s.ts.map Tch.av)]):=by
  rw [add_full rfl rfl (elemsOk_map (fun _=>rfl) _) (ltL_map (fun _=>rfl) _) (by simp;omega) rfl]
  simp
 have h2:zBo (H++[.box (.agg [vb,I s.near,I s.last,vt]),.box (.agg [.sl true [],I 0,I 0,.sl true []]),.grow 4 (s.ts.map Tch.av)]) 4 true (.gsl (H.length+2) s.ts.length) [.agg [I n,I m,I x,I x]]=some (.gsl (H.length+2) (s.ts.length+1),H++[.box (.agg [vb,I s.near,I s.last,vt]),.box (.agg [.sl true [],I 0,I 0,.sl true []]),.grow 4 ((s.touch n m x).ts.map Tch.av)]):=by
  rw [add_gsl (xs:=s.ts.map Tch.av) (by simp [zAe]) (by simp) rfl rfl (by simp;omega),zBs]
  simp only [Stl.touch,List.map_append]
  rfl
 have he:=fun G=>(hvt.app G).elems
 have hse:=hvb.seal
 have hlt:=hvb.lt0
 have hlt2:∀ N,ltL N ((s.touch n m x).ts.map Tch.av)=true:=fun N=>ltL_map (fun _=>rfl) _
 have hln:=touch_len s n m x
 refine (zA1 fn16 rfl (by simp [Tryz.f16])).trans ?_
 simp -implicitDefEqProofs (maxSteps:=1000000) (disch:=first|rfl|omega|assumption) only [go_sem,ltT,ltF,leT,sb,st,he,h1,h2,hlt,hlt2,hse,List.length_map,hln]
 done
theorem ceil_step {x k:Int} (hk:1≤k):(x+k-1)/k≤(x+1+k-1)/k∧(x+1+k-1)/k≤(x+k-1)/k+1:=by
 constructor
 ·exact Int.ediv_le_ediv (by omega) (by omega)
 ·have h:(x+k-1)/k+1=(x+k-1+k)/k:=by rw [Int.add_ediv_of_dvd_right (Int.dvd_refl k),Int.ediv_self (by omega)]
  rw [h]
  exact Int.ediv_le_ediv (by omega) (by omega)
theorem fallsZ_nonneg {x k:Int} (hx:0≤x) (hk:1≤k):zAm x k=x-(x+k-1)/k:=by
 rw [zAm,if_neg (by omega),Int.tdiv_eq_ediv_of_nonneg (by omega)]
theorem fallsZ_zero {k:Int} (hk:1≤k):zAm 0 k=0:=by
 have:=fallsZ_bd (x:=0) hk
 omega
theorem fallsZ_neg {x k:Int} (hk:1≤k):zAm (-x) k = -zAm x k:=by
 rcases Int.lt_trichotomy x 0 with h | h | h
 ·rw [zAm,if_neg (by omega)]
  conv=>rhs;rw [zAm,if_pos h]
  omega
 ·subst h;rw [Int.neg_zero,fallsZ_zero hk];rfl
 ·rw [zAm,if_pos (by omega)]
  conv=>rhs;rw [zAm,if_neg (by omega)]
  simp
theorem fallsZ_step {x k:Int} (hk:1≤k):zAm x k≤zAm (x+1) k∧zAm (x+1) k≤zAm x k+1:=by
 rcases Int.lt_or_le x 0 with h | h
 ·have e1:zAm x k = -zAm (-x) k:=by rw [fallsZ_neg hk];omega
  have e2:zAm (x+1) k = -zAm (-x-1) k:=by rw [← fallsZ_neg hk];congr 1;omega
  rw [e1,e2,fallsZ_nonneg (by omega) hk,fallsZ_nonneg (by omega) hk]
  have:=ceil_step (x := -x-1) hk
  rw [show -x-1+1+k-1 = -x+k-1 by omega] at this
  omega
 ·rw [fallsZ_nonneg h hk,fallsZ_nonneg (by omega) hk]
  have:=ceil_step (x:=x) hk
  omega
theorem fallsZ_mono {x y k:Int} (hk:1≤k) (h:x≤y):zAm x k≤zAm y k:=by
 obtain ⟨n,rfl⟩:=Int.le.dest h
 clear h
 induction n with
 | zero=>simp
 | succ n ih =>
  have:=(fallsZ_step (x:=x+n) hk).1
  rw [show x+((n+1:Nat):Int)=x+n+1 by omega]
  omega
theorem loS_spec (f:Nat→Int):∀ n,1≤n→(∀ j,j<n→loS f n≤f j)∧∃ j,j<n∧loS f n=f j
 | 0,h=>absurd h (by omega)
 | n+1,_=>by
  simp only [loS]
  rcases Nat.eq_zero_or_pos n with rfl | hn
  ·rw [if_pos rfl]
   exact ⟨fun j hj=>by rw [show j=0 by omega];exact Int.le_refl _,0,by omega,rfl⟩
  ·obtain ⟨h1,j0,h2,h3⟩:=loS_spec f n hn
   rw [if_neg (by omega)]
   split
   ·rename_i hlt
    refine ⟨fun j hj=>?_,n,by omega,rfl⟩
    rcases Nat.lt_or_ge j n with h | h
    ·have:=h1 j h;omega
    ·rw [show j=n by omega];exact Int.le_refl _
   ·rename_i hlt
    refine ⟨fun j hj=>?_,j0,by omega,h3⟩
    rcases Nat.lt_or_ge j n with h | h
    ·exact h1 j h
    ·rw [show j=n by omega];omega
theorem hiS_spec (f:Nat→Int):∀ n,1≤n→(∀ j,j<n→f j≤hiS f n)∧∃ j,j<n∧hiS f n=f j
 | 0,h=>absurd h (by omega)
 | n+1,_=>by
  simp only [hiS]
  rcases Nat.eq_zero_or_pos n with rfl | hn
  ·rw [if_pos rfl]
   exact ⟨fun j hj=>by rw [show j=0 by omega];exact Int.le_refl _,0,by omega,rfl⟩
  ·obtain ⟨h1,j0,h2,h3⟩:=hiS_spec f n hn
   rw [if_neg (by omega)]
   split
   ·rename_i hlt
    refine ⟨fun j hj=>?_,n,by omega,rfl⟩
    rcases Nat.lt_or_ge j n with h | h
    ·have:=h1 j h;omega
    ·rw [show j=n by omega];exact Int.le_refl _
   ·rename_i hlt
    refine ⟨fun j hj=>?_,j0,by omega,h3⟩
    rcases Nat.lt_or_ge j n with h | h
    ·exact h1 j h
    ·rw [show j=n by omega];omega
theorem warm_has (s:Stl) (blk:Int) {b:Blk} (hb:b.Ok) (m:Nat) {k:Int} (h1:b.s0≤k) (h2:k≤b.s1):warmLo s blk b m≤exc s.ts blk (b.x 0) k 0 m∧exc s.ts blk (b.x 1) k 1 m≤warmHi s blk b m:=by
 have hnn:1≤b.n:=by have:=hb.a5;have:=hb.hn;omega
 have hn:=hb.hn
 obtain ⟨l1,-⟩:=loS_spec (exA s blk b m) b.n hnn
 obtain ⟨u1,-⟩:=hiS_spec (exB s blk b m) b.n hnn
 have e:b.s0+((k-b.s0).toNat:Int)=k:=by omega
 have a1:=l1 (k-b.s0).toNat (by omega)
 have a2:=u1 (k-b.s0).toNat (by omega)
 simp only [exA,exB,e] at a1 a2
 exact ⟨a1,a2⟩
theorem heats_cons (t:Tch) (r:List Tch) (blk m e:Int):(zBb (t::r) blk m e).sum=(if t.b=blk∧t.m=m then t.h e else 0)+(zBb r blk m e).sum:=by
 by_cases c1:t.b=blk<;>by_cases c2:t.m=m<;>simp [zBb,c1,c2]
theorem hsF_in (s:Stl) {hs:List Int} (hb:∀ i,i<s.ts.length→(s.ts.getD i ⟨0,0,0,0⟩).h0≤hs.getD i 0∧hs.getD i 0≤(s.ts.getD i ⟨0,0,0,0⟩).h1) (blk m:Int):∀ (q j:Nat) (acc:Int),j+q=s.ts.length→acc+(zBb (s.ts.drop j) blk m 0).sum≤hsF s hs blk m acc j q∧hsF s hs blk m acc j q≤acc+(zBb (s.ts.drop j) blk m 1).sum
 | 0,j,acc,h=>by
  have hd:s.ts.drop j=[]:=List.drop_eq_nil_of_le (by omega)
  rw [hd];simp [hsF,foldF,zBb]
 | q+1,j,acc,h=>by
  have hj:j<s.ts.length:=by omega
  have e:hsF s hs blk m acc j (q+1)=hsF s hs blk m (if (s.ts.getD j ⟨0,0,0,0⟩).b=blk∧(s.ts.getD j ⟨0,0,0,0⟩).m=m then acc+hs.getD j 0 else acc) (j+1) q:=rfl
  have hd:s.ts.drop j=s.ts.getD j ⟨0,0,0,0⟩::s.ts.drop (j+1):=by rw [List.drop_eq_getElem_cons hj];simp [hj]
  have hbj:=hb j hj
  rw [e,hd,heats_cons,heats_cons]
  generalize s.ts.getD j ⟨0,0,0,0⟩=t at *
  have ih:=hsF_in s hb blk m q (j+1) (if t.b=blk∧t.m=m then acc+hs.getD j 0 else acc) (by omega)
  have e0:t.h 0=t.h0:=rfl
  have e1:t.h 1=t.h1:=rfl
  rw [e0,e1]
  by_cases c:t.b=blk∧t.m=m
  ·simp only [c,and_self,if_true] at ih ⊢
   omega
  ·simp only [c,if_false] at ih ⊢
   omega
theorem inZ_in (s:Stl) {hs:List Int} (hb:∀ i,i<s.ts.length→(s.ts.getD i ⟨0,0,0,0⟩).h0≤hs.getD i 0∧hs.getD i 0≤(s.ts.getD i ⟨0,0,0,0⟩).h1) {blk k x0 lo hi:Int} (hk:1≤k) (h1:lo≤x0) (h2:x0≤hi):∀ n,exc s.ts blk lo k 0 n≤inZ s hs blk k x0 n∧inZ s hs blk k x0 n≤exc s.ts blk hi k 1 n
 | 0=>by
  have:=hsF_in s hb blk 0 s.ts.length 0 x0 (by omega)
  rw [List.drop_zero] at this
  simp only [inZ,exc]
  omega
 | n+1=>by
  obtain ⟨a,b⟩:=inZ_in s hb hk h1 h2 (blk:=blk) n
  have:=hsF_in s hb blk ((n+1:Nat):Int) s.ts.length 0 (zAm (inZ s hs blk k x0 n) k) (by omega)
  rw [List.drop_zero] at this
  have c:=fallsZ_mono hk a
  have d:=fallsZ_mono hk b
  simp only [inZ,exc]
  omega
theorem inZ_warm {s:Stl} {blk:Int} {b:Blk} (hbo:b.Ok) {hs:List Int} (hb:∀ i,i<s.ts.length→(s.ts.getD i ⟨0,0,0,0⟩).h0≤hs.getD i 0∧hs.getD i 0≤(s.ts.getD i ⟨0,0,0,0⟩).h1) {k x0:Int} (hk:b.s0≤k∧k≤b.s1) (hx:b.x0≤x0∧x0≤b.x1) (m:Nat):warmLo s blk b m≤inZ s hs blk k x0 m∧inZ s hs blk k x0 m≤warmHi s blk b m:=by
 have h1:=warm_has s blk hbo m hk.1 hk.2
 have h2:=inZ_in s hb (blk:=blk) (k:=k) (lo:=b.x 0) (hi:=b.x 1) (by have:=hbo.a4;omega) hx.1 hx.2 m
 omega
theorem inZ_settl {s:Stl} {blk:Int} {b:Blk} (hbo:b.Ok) {hs:List Int} (hb:∀ i,i<s.ts.length→(s.ts.getD i ⟨0,0,0,0⟩).h0≤hs.getD i 0∧hs.getD i 0≤(s.ts.getD i ⟨0,0,0,0⟩).h1) {k x0:Int} (hk:b.s0≤k∧k≤b.s1) (hx:b.x0≤x0∧x0≤b.x1) {m:Nat} (h:settl s blk b m=true) : -s.near≤inZ s hs blk k x0 m∧inZ s hs blk k x0 m≤s.near:=by
 have h1:=inZ_warm hbo hb hk hx m (blk:=blk)
 simp only [settl,Bool.and_eq_true,decide_eq_true_eq] at h
 omega
theorem when_settl {s:Stl} (hl:0≤s.last) {blk:Int} {b:Blk} {w:Int} (h:whenR s blk b=some w) {m:Nat} (h1:w≤m) (h2:(m:Int)≤s.last):settl s blk b m=true:=by
 simp only [whenR] at h
 rcases stop_find (fun j=>!settl s blk b (s.last.toNat-j)) (s.last.toNat+1) 0 with ⟨k1,k2,k3⟩ | ⟨i,k1,k2,k3,k4,k5,k6⟩
 ·have:=k3 (s.last.toNat-m) (by omega) (by omega)
  simp only [Bool.not_eq_false',show s.last.toNat-(s.last.toNat-m)=m by omega] at this
  exact this
 ·rw [k1] at h
  simp only at h
  split at h
  ·cases h
  ·simp only [Option.some.injEq] at h
   have:=k6 (s.last.toNat-m) (by omega) (by omega)
   simp only [Bool.not_eq_false',show s.last.toNat-(s.last.toNat-m)=m by omega] at this
   exact this
theorem allR_le (s:Stl):∀ (q j:Nat) (acc w:Int),allR s acc j q=some w→acc≤w∧∀ i,j≤i→i<j+q→∃ v,whenR s i (s.bs.getD i ⟨0,0,0,0,0,0⟩)=some v∧v≤w
 | 0,j,acc,w,h=>by
  simp only [allR,Option.some.injEq] at h
  exact ⟨by omega,fun i h1 h2=>by omega⟩
 | q+1,j,acc,w,h=>by
  simp only [allR] at h
  cases hw:whenR s j (s.bs.getD j ⟨0,0,0,0,0,0⟩) with
  | none=>rw [hw] at h;cases h
  | some v =>
   rw [hw] at h
   simp only at h
   obtain ⟨h1,h2⟩:=allR_le s q (j+1) _ w h
   have h3:acc≤w∧v≤w:=by split at h1<;>omega
   refine ⟨h3.1,fun i k1 k2=>?_⟩
   by_cases e:i=j
   ·subst e;exact ⟨v,hw,h3.2⟩
   ·exact h2 i (by omega) (by omega)
theorem all_settl {s:Stl} (hl:0≤s.last) {w:Int} (h:allR s 0 0 s.bs.length=some w) {i:Nat} (hi:i<s.bs.length) {m:Nat} (h1:w≤m) (h2:(m:Int)≤s.last):settl s i (s.bs.getD i ⟨0,0,0,0,0,0⟩) m=true:=by
 obtain ⟨_,h3⟩:=allR_le s _ _ _ _ h
 obtain ⟨v,h4,h5⟩:=h3 i (by omega) (by omega)
 exact when_settl hl h4 (by omega) h2
theorem find_lt {d:Nat→Bool} {m i:Nat} (h:findN d 0 m=some i):i<m∧d i=true:=by
 rcases stop_find d m 0 with ⟨h1,_⟩ | ⟨i',h1,_,h3,_,h5,_⟩
 ·rw [h1] at h;cases h
 ·rw [h1] at h;cases h;exact ⟨by omega,h3⟩
theorem stop_ok {m c off:Int} (ho:0≤off):∀ n,-off≤grW m c (-((stopN m c off n:Nat):Int))
 | 0=>by simp [stopN,grW];omega
 | n+1=>by
  simp only [stopN]
  split
  ·exact stop_ok ho n
  ·rename_i h;omega
theorem room_le {m off:Int}:∀ (D:List (Int×Int)) (n:Nat) {p:Int×Int},p∈D→D.foldl (fun n p=>min n (stopN m p.2 off 100)) n≤stopN m p.2 off 100
 | x::D,n,p,h=>by
  rw [List.foldl_cons]
  rcases List.mem_cons.1 h with rfl | h
  ·have:=foldmin_le (fun p=>stopN m p.2 off 100) D (min n (stopN m p.2 off 100))
   omega
  ·exact room_le D _ h
theorem room_grows {m off:Int} (hm:0≤m) (ho:0≤off) {D:List (Int×Int)} {p:Int×Int} (hp:p∈D) (hc:0≤p.2) {t:Int} (h1 : -((roomN m off D:Nat):Int)≤t) (h2:t≤(roomN m off D:Nat)) : -off≤grW m p.2 t∧grW m p.2 t≤off:=by
 have hr:=room_le (m:=m) (off:=off) D 100 hp
 change roomN m off D≤_ at hr
 have h3:=stop_ok (m:=m) (c:=p.2) ho 100
 have h4:=grW_mono hm hc (show -((stopN m p.2 off 100:Nat):Int) ≤ -((roomN m off D:Nat):Int) by omega)
 have h5:=grW_mono hm hc h1
 have h6:=grW_mono hm hc h2
 have h7:grW m p.2 ((roomN m off D:Nat):Int) ≤ -grW m p.2 (-((roomN m off D:Nat):Int)):=by
  rw [grW_div,grW_div,Int.mul_neg]
  generalize m*p.2*((roomN m off D:Nat):Int)=x
  omega
 omega
theorem kw_same {C:Cfg} {P:Program} {x y:KSt} {Q:Done→Prop} (h:zAn C P (kXL C P) x=zAn C P (kXL C P) y):KW C P x Q=KW C P y Q:=by
 cases hs:zAn C P (kXL C P) y with
 | none=>rw [zBm hs,zBm (h.trans hs)]
 | done D=>rw [kw_done hs,kw_done (h.trans hs)]
 | alts l=>rw [kw_alts hs,kw_alts (h.trans hs)]
 | call b f=>rw [kw_call hs,kw_call (h.trans hs)]
def kgP (v:AV) (w:Bool) (x y:Prop):Prop:=match v with
 | .bool b=>if b=w then x else y
 | .tup _=>y
 | _=>False
@[congr] theorem kgP_congr {v v':AV} {w:Bool} {x y:Prop} (h:v=v'):kgP v w x y=kgP v' w x y:=by rw [h]
theorem kgP_tt {x y:Prop}:kgP (.bool true) true x y=x:=rfl
theorem kgP_ff {x y:Prop}:kgP (.bool false) false x y=x:=rfl
theorem kgP_tf {x y:Prop}:kgP (.bool true) false x y=y:=rfl
theorem kgP_ft {x y:Prop}:kgP (.bool false) true x y=y:=rfl
theorem kgP_tup {l:List AV} {w:Bool} {x y:Prop}:kgP (.tup l) w x y=y:=rfl
theorem kw_guard {C:Cfg} {P:Program} {F:FI} {all r:List Oper} {k:List Item} {d:Option Tmp} {op:Op} {t:TypeId} {p:String} {a:Array Edge} {j:Nat} {w:Bool} {e:Env} {df:List ADefer} {H:Heap} {pn:Option (AV×Bool)} {Q:Done→Prop} :
  KW C P (.ops F all (⟨d,op,t,p,a,some (j,w)⟩::r) k ⟨e,df,H,pn⟩) Q=kgP (e.getO (dstAt all j)) w (KW C P (.ops F all (⟨d,op,t,p,a,none⟩::r) k ⟨e,df,H,pn⟩) Q) (KW C P (.ops F all r k ⟨e.put d (.tup []),df,H,pn⟩) Q):=by
 have hev:evOp C P F H e ⟨d,op,t,p,a,some (j,w)⟩=evOp C P F H e ⟨d,op,t,p,a,none⟩:=rfl
 rw [dstAt_eq]
 cases hj:(all[j]?).bind (·.dst) with
 | none=>exact zBm (by simp only [zAn,zAf,hj])
 | some q =>
  simp only [Env.getO]
  cases hv:e.get q with
  | bool b =>
   by_cases hb:b=w
   ·subst hb
    simp only [kgP,if_true]
    exact kw_same (by simp only [zAn,zAf,hj,hv,beq_self_eq_true,hev])
   ·have hb':(b==w)=false:=by simpa using hb
    simp only [kgP,if_neg hb]
    exact kw_alt (by simp only [zAn,zAf,hj,hv,hb'])
  | tup l =>
   simp only [kgP]
   exact kw_alt (by simp only [zAn,zAf,hj,hv])
  | _=>exact zBm (by simp only [zAn,zAf,hj,hv])
theorem wa_with (a b n:Int) (H:Heap):zA8 cfg0 zA0 false 70 [.agg [I a,I b],I n] H none=some ⟨.ret (.agg [I (if n<a then n else a),I (if b<n then n else b)]),H,none⟩:=by
 have hk':True:=trivial
 obtain ⟨x,hx⟩:∃ x,(if n<a then n else a)=x:=⟨_,rfl⟩
 obtain ⟨y,hy⟩:∃ y,(if b<n then n else b)=y:=⟨_,rfl⟩
 rw [hx,hy]
 refine (zA1 fn70 rfl (by simp [Tryz.f70])).trans ?_
 simp -implicitDefEqProofs (maxSteps:=1000000) (disch:=first|rfl|omega|assumption) only [go_sem,ltT,ltF,leT,hx,hy]
 done
noncomputable abbrev rS (e:Env) (d:Nat):ALoop:=zAq Tryz.f44 44 0 e d
theorem set_setT {K:Heap} {l p:Nat} (hp:l≠p) {r0 r1 o:AO} (hl:K[l]? = some r0):((K.set l r1).set p o).set l r0=K.set p o:=by
 rw [List.set_comm _ _ hp,List.set_set,set_self]
 rw [List.getElem?_set_ne (Ne.symm hp)]
 exact hl
theorem sn_hear {e:Env} {l d p5 p6:Nat} {K:Heap} (e5:e.get 5=.ptr p5 0) (e6:e.get 6=.ptr p6 0) (kl:K[l]? = some (.loop (rS e d))) {a b:Int} (k5:K[p5]? = some (.box (.agg [I a,I b]))) (k6:K[p6]? = some (.box (.func (.func 70) [] []))) (h5:l≠p5) (h6:l≠p6) (n:Int) (bb:Nat) :
  zAw cfg0 zA0 bb false (.yield l) [I n] [] K none=some ⟨.ret (.bool true),K.set p5 (.box (.agg [I (if n<a then n else a),I (if b<n then n else b)])),none⟩:=by
 have hk':True:=trivial
 have ll:=(List.getElem?_eq_some_iff.1 kl).1
 have l5:=(List.getElem?_eq_some_iff.1 k5).1
 have l6:=(List.getElem?_eq_some_iff.1 k6).1
 obtain ⟨x,hx⟩:∃ x,(if n<a then n else a)=x:=⟨_,rfl⟩
 obtain ⟨y,hy⟩:∃ y,(if b<n then n else b)=y:=⟨_,rfl⟩
 have hw:=fun G:Heap=>wa_with a b n G
 rw [hx,hy] at hw ⊢
 have hfin:=set_setT h5 (r1:=.loop { rS e d with state:=.busy }) (o:=.box (.agg [I x,I y])) kl
 obtain ⟨K2,h2⟩:∃ K2,K.set l (.loop { rS e d with state:=.busy })=K2:=⟨_,rfl⟩
 have n2:K2.length=K.length:=by rw [← h2,List.length_set]
 have m5:K2[p5]? = some (.box (.agg [I a,I b])):=by rw [← h2,List.getElem?_set_ne h5];exact k5
 have m6:K2[p6]? = some (.box (.func (.func 70) [] [])):=by rw [← h2,List.getElem?_set_ne h6];exact k6
 have ml:K2[l]? = some (.loop { rS e d with state:=.busy }):=by rw [← h2,List.getElem?_set_self ll]
 rw [h2] at hfin
 obtain ⟨K3,h3⟩:∃ K3,K2.set p5 (.box (.agg [I x,I y]))=K3:=⟨_,rfl⟩
 have n3:K3.length=K.length:=by rw [← h3,List.length_set,n2]
 have m3:K3[l]? = some (.loop { rS e d with state:=.busy }):=by rw [← h3,List.getElem?_set_ne (Ne.symm h5)];exact ml
 rw [h3] at hfin
 have e52:p5<K2.length:=by omega
 have e62:p6<K2.length:=by omega
 have el3:l<K3.length:=by omega
 obtain ⟨K4,h4⟩:∃ K4,K.set p5 (.box (.agg [I x,I y]))=K4:=⟨_,rfl⟩
 rw [h4] at hfin ⊢
 have htk:K4.take K.length=K4:=List.take_of_length_le (by rw [← h4,List.length_set];omega)
 simp only [zAq,zAo,List.nil_append,List.append_nil,List.cons_append,List.getElem?_cons_zero,List.getElem?_cons_succ,Tryz.f44,rS] at h2 hfin kl ml m3
 simp -implicitDefEqProofs (maxSteps:=1000000) (disch:=first|rfl|omega|assumption) only [go_sem,ltT,ltF,leT,callV_yield,kl,e5,e6,h2,zA6 e52,zA6 e62,m5,m6,hw,h3,m3,hfin,htk]
 done
theorem wa_Shows1 (p:Int×Int) (P Q:Nat) (H:Heap):zA8 cfg0 zA0 false 45 [.agg [I p.1,I p.2],.ptr P 0,.ptr Q 0] H none=some ⟨.ret (.func (.func 47) [] [.ptr (H.length+1) 0,.ptr P 0,.ptr Q 0]),H++[.box (.agg [I p.1,I p.2]),.box (.func (.func 46) [.agg [I p.1,I p.2]] [])],none⟩:=by
 have hk':True:=trivial
 refine (zA1 fn45 rfl (by simp [Tryz.f45])).trans ?_
 simp -implicitDefEqProofs (maxSteps:=1000000) (disch:=first|rfl|omega|assumption) only [go_sem,ltT,ltF,leT]
 done
def mnT (s a b:Int):Int:=if b<(if a<s then a else s) then b else (if a<s then a else s)
def mxT (s a b:Int):Int:=if (if s<a then a else s)<b then b else (if s<a then a else s)
theorem sh_it {w:Wm} (ho:w.Ok) {vr:AV} (hvr:vr.scalar=true) {e:Env} {l d p5 p6 r P Q:Nat} {K:Heap} (e5:e.get 5=.ptr p5 0) (e6:e.get 6=.ptr p6 0) (kl:K[l]? = some (.loop (rS e d))) {a b:Int} (k5:K[p5]? = some (.box (.agg [I a,I b]))) (k6:K[p6]? = some (.box (.func (.func 70) [] []))) (h5:l≠p5) (h6:l≠p6) (h56:p5≠p6)
  {n c lo hi:Int} (hn : -1000≤n∧n≤1000) (hc:0≤c∧c≤20) (hlo : -100≤lo∧lo≤100) (hhi : -100≤hi∧hi≤100) (kr:K[r]? = some (.box (.func (.func 46) [.agg [I n,I c]] []))) (kP:K[P]? = some (.box (.agg [I w.mark,I w.n1,I w.n2,I w.c1,I w.c2,vr]))) (kQ:K[Q]? = some (.box (.agg [I lo,I hi]))) (hr5:r≠p5) (hP5:P≠p5) (hQ5:Q≠p5)
  {QQ:Done→Prop} (hQ:QQ ⟨.ret (.tup []),K.set p5 (.box (.agg [I (mnT a (n+grW w.mark c lo) (n+grW w.mark c hi)),I (mxT b (n+grW w.mark c lo) (n+grW w.mark c hi))])),none⟩) :
  KW cfg0 zA0 (.call 47 [.func (.yield l) [] [],.ptr r 0,.ptr P 0,.ptr Q 0] K) QQ:=by
 have hk':True:=trivial
 have hm:=ho.mark
 have ll:=(List.getElem?_eq_some_iff.1 kl).1
 have l5:=(List.getElem?_eq_some_iff.1 k5).1
 have lr:=(List.getElem?_eq_some_iff.1 kr).1
 have lP:=(List.getElem?_eq_some_iff.1 kP).1
 have lQ:=(List.getElem?_eq_some_iff.1 kQ).1
 have g1:=fun (G:Heap)=>wa_shows (m:=w.mark) (c:=c) (t:=lo) (n:=n) (by omega) (by omega) (by omega) (by omega) G
 have g2:=fun (G:Heap)=>wa_shows (m:=w.mark) (c:=c) (t:=hi) (n:=n) (by omega) (by omega) (by omega) (by omega) G
 simp only [mnT,mxT] at hQ
 generalize n+grW w.mark c lo=x at *
 generalize n+grW w.mark c hi=y at *
 have q1:=fun bb=>sn_hear e5 e6 kl k5 k6 h5 h6 x bb
 obtain ⟨a1,ha1⟩:∃ a1,(if x<a then x else a)=a1:=⟨_,rfl⟩
 obtain ⟨b1,hb1⟩:∃ b1,(if b<x then x else b)=b1:=⟨_,rfl⟩
 rw [ha1,hb1] at hQ q1
 obtain ⟨K1,hK1⟩:∃ K1,K.set p5 (.box (.agg [I a1,I b1]))=K1:=⟨_,rfl⟩
 have n1:K1.length=K.length:=by rw [← hK1,List.length_set]
 have s5:K1[p5]? = some (.box (.agg [I a1,I b1])):=by rw [← hK1,List.getElem?_set_self l5]
 have ot:∀ i,i≠p5→K1[i]? = K[i]? := fun i hi=>by rw [← hK1,List.getElem?_set_ne (Ne.symm hi)]
 have q2:=fun bb=>sn_hear (K:=K1) e5 e6 (by rw [ot _ h5];exact kl) s5 (by rw [ot _ (Ne.symm h56)];exact k6) h5 h6 y bb
 obtain ⟨a2,ha2⟩:∃ a2,(if y<a1 then y else a1)=a2:=⟨_,rfl⟩
 obtain ⟨b2,hb2⟩:∃ b2,(if b1<y then y else b1)=b2:=⟨_,rfl⟩
 rw [ha2,hb2] at hQ q2
 have hss:K1.set p5 (.box (.agg [I a2,I b2]))=K.set p5 (.box (.agg [I a2,I b2])):=by rw [← hK1,List.set_set]
 rw [hss] at q2
 rw [hK1] at q1
 have c1:K1[r]? = some (.box (.func (.func 46) [.agg [I n,I c]] [])):=by rw [ot _ hr5];exact kr
 have c2:K1[P]? = some (.box (.agg [I w.mark,I w.n1,I w.n2,I w.c1,I w.c2,vr])):=by rw [ot _ hP5];exact kP
 have c3:K1[Q]? = some (.box (.agg [I lo,I hi])):=by rw [ot _ hQ5];exact kQ
 obtain ⟨K2,hK2⟩:∃ K2,K.set p5 (.box (.agg [I a2,I b2]))=K2:=⟨_,rfl⟩
 rw [hK2] at hQ q2
 have htk:K2.take K.length=K2:=List.take_of_length_le (by rw [← hK2,List.length_set];omega)
 have hfn:∀ b D,finN (cfg0.grow 47 999999) (cfg0.grow 47 999998) b D=zAi b D:=fun _ _=>rfl
 rw [kw_enter fn47 rfl (by simp [Tryz.f47])]
 simp -implicitDefEqProofs (maxSteps:=1000000) (disch:=first|rfl|omega|assumption) only [go_sem,ltT,ltF,leT,zA6 lr,zA6 lP,zA6 lQ,kr,kP,kQ,g1,g2,q1,q2,c1,c2,c3,hvr,htk,hfn,kw_guard,kgP_tt,kgP_ff,kgP_tf,kgP_ft,kgP_tup]
 exact hQ
theorem mnT_eq (s a b:Int):mnT s a b=min (min s a) b:=by
 simp only [mnT];split<;>split<;>omega
theorem mxT_eq (s a b:Int):mxT s a b=max (max s a) b:=by
 simp only [mxT];split<;>split<;>omega
def mnD (m lo hi:Int) (D:List (Int×Int)):Int:=D.foldl (fun s p=>mnT s (p.1+grW m p.2 lo) (p.1+grW m p.2 hi)) 1099511627776
def mxD (m lo hi:Int) (D:List (Int×Int)):Int:=D.foldl (fun s p=>mxT s (p.1+grW m p.2 lo) (p.1+grW m p.2 hi)) (-1099511627776)
theorem mnD_perm {m lo hi:Int} {D D':List (Int×Int)} (h:D.Perm D'):mnD m lo hi D=mnD m lo hi D' :=
 h.foldl_eq' (fun x _ y _ s=>by simp only [mnT_eq];omega) _
theorem mxD_perm {m lo hi:Int} {D D':List (Int×Int)} (h:D.Perm D'):mxD m lo hi D=mxD m lo hi D' :=
 h.foldl_eq' (fun x _ y _ s=>by simp only [mxT_eq];omega) _
theorem mnF_le (m lo hi:Int):∀ (D:List (Int×Int)) (s:Int),D.foldl (fun s p=>mnT s (p.1+grW m p.2 lo) (p.1+grW m p.2 hi)) s≤s∧∀ p∈D,D.foldl (fun s p=>mnT s (p.1+grW m p.2 lo) (p.1+grW m p.2 hi)) s≤p.1+grW m p.2 lo
 | [],s=>⟨Int.le_refl _,fun p hp=>by cases hp⟩
 | x::D,s=>by
  rw [List.foldl_cons]
  obtain ⟨h1,h2⟩:=mnF_le m lo hi D (mnT s (x.1+grW m x.2 lo) (x.1+grW m x.2 hi))
  have e:=mnT_eq s (x.1+grW m x.2 lo) (x.1+grW m x.2 hi)
  refine ⟨by omega,fun p hp=>?_⟩
  rcases List.mem_cons.1 hp with rfl | hp
  ·omega
  ·exact h2 p hp
theorem mxF_le (m lo hi:Int):∀ (D:List (Int×Int)) (s:Int),s≤D.foldl (fun s p=>mxT s (p.1+grW m p.2 lo) (p.1+grW m p.2 hi)) s∧∀ p∈D,p.1+grW m p.2 hi≤D.foldl (fun s p=>mxT s (p.1+grW m p.2 lo) (p.1+grW m p.2 hi)) s
 | [],s=>⟨Int.le_refl _,fun p hp=>by cases hp⟩
 | x::D,s=>by
  rw [List.foldl_cons]
  obtain ⟨h1,h2⟩:=mxF_le m lo hi D (mxT s (x.1+grW m x.2 lo) (x.1+grW m x.2 hi))
  have e:=mxT_eq s (x.1+grW m x.2 lo) (x.1+grW m x.2 hi)
  refine ⟨by omega,fun p hp=>?_⟩
  rcases List.mem_cons.1 hp with rfl | hp
  ·omega
  ·exact h2 p hp
structure SnAt (H:Heap) (a b:Int) (K:Heap):Prop where
 old:Kp H K
 len:H.length+3≤K.length
 z:K[H.length]? = some (.box (.agg [I 0,I 0]))
 s:K[H.length+1]? = some (.box (.agg [I a,I b]))
 f:K[H.length+2]? = some (.box (.func (.func 70) [] []))
theorem SnAt.set {a b:Int} {K:Heap} (h:SnAt H a b K) {i:Nat} (hi:H.length+3≤i) (x:AO):SnAt H a b (K.set i x):=by
 have e:∀ j,j<H.length+3→(K.set i x)[j]? = K[j]? := fun j hj=>List.getElem?_set_ne (by omega)
 exact ⟨h.old.set (by omega) x,by rw [List.length_set];exact h.len,by rw [e _ (by omega)];exact h.z,by rw [e _ (by omega)];exact h.s,by rw [e _ (by omega)];exact h.f⟩
theorem SnAt.app {a b:Int} {K:Heap} (h:SnAt H a b K) (G:Heap):SnAt H a b (K++G):=by
 have hl:=h.len
 have e:∀ j,j<H.length+3→(K++G)[j]? = K[j]? := fun j hj=>List.getElem?_append_left (by omega)
 exact ⟨h.old.app G,by rw [List.length_append];omega,by rw [e _ (by omega)];exact h.z,by rw [e _ (by omega)];exact h.s,by rw [e _ (by omega)];exact h.f⟩
theorem SnAt.put {a b:Int} {K:Heap} (h:SnAt H a b K) (a' b':Int):SnAt H a' b' (K.set (H.length+1) (.box (.agg [I a',I b']))):=by
 have hl:=h.len
 have e:∀ j,j≠H.length+1→(K.set (H.length+1) (.box (.agg [I a',I b'])))[j]? = K[j]? := fun j hj=>List.getElem?_set_ne (Ne.symm hj)
 exact ⟨h.old.set (by omega) _,by rw [List.length_set];exact hl,by rw [e _ (by omega)];exact h.z,by rw [List.getElem?_set_self (by omega)],by rw [e _ (by omega)];exact h.f⟩
def DK (A:Nat) (K:Heap):Nat→List ADefer→Prop
 | _,[]=>True
 | N,.collected l::r=>A≤l∧l<N∧K[l]? = some .dfr∧DK A K l r
 | _,.fn ..::_=>False
theorem DK.mono {A:Nat} {K K':Heap}:∀ {N M:Nat} {D:List ADefer},N≤M→(∀ i,i<N→K[i]? = some .dfr→K'[i]? = some .dfr)→DK A K N D→DK A K' M D
 | _,_,[],_,_,_=>trivial
 | N,M,.collected l::r,h,hk,hd=>by
  obtain ⟨h1,h2,h3,h4⟩:=hd
  exact ⟨h1,by omega,hk l h2 h3,DK.mono (Nat.le_refl l) (fun i hi=>hk i (by omega)) h4⟩
 | _,_,.fn ..::_,_,_,hd=>hd.elim
theorem unw_DK {C:Cfg} {P:Program} {F:FI} {m:Option (AV×Bool)} {e:Env} {pn:Option (AV×Bool)} {A:Nat} {r:List ADefer}:∀ (D:List ADefer) (N:Nat) (K:Heap),DK A K N D→∃ K',K'.length=K.length∧(∀ i,i<A→K'[i]? = K[i]?)∧unwL C P F m ⟨e,D++r,K,pn⟩=unwL C P F m ⟨e,r,K',pn⟩
 | [],_,K,_=>⟨K,rfl,fun _ _=>rfl,rfl⟩
 | .collected l::D,N,K,hd=>by
  obtain ⟨h1,h2,h3,h4⟩:=hd
  obtain ⟨K',k1,k2,k3⟩:=unw_DK (e:=e) (m:=m) (F:=F) (C:=C) (P:=P) (pn:=pn) (A:=A) (r:=r) D l (K.set l .dead) (h4.mono (Nat.le_refl l) fun i hi hd=>by rw [List.getElem?_set_ne (by omega)];exact hd)
  refine ⟨K',by rw [k1,List.length_set],fun i hi=>by rw [k2 i hi,List.getElem?_set_ne (by omega)],?_⟩
  rw [← k3,List.cons_append,unwL_collected,h3]
 | .fn ..::_,_,_,hd=>hd.elim
theorem end_DK {C:Cfg} {P:Program} {F:FI} {m:Option (AV×Bool)} {e:Env} {pn:Option (AV×Bool)} {A N:Nat} {D:List ADefer} {K:Heap} {Q:Done→Prop} (hd:DK A K N D) (h:∀ K',K'.length=K.length→(∀ i,i<A→K'[i]? = K[i]?)→endP (unwL C P F m ⟨e,[],K',pn⟩) Q):endP (unwL C P F m ⟨e,D,K,pn⟩) Q:=by
 obtain ⟨K',k1,k2,k3⟩:=unw_DK (C:=C) (P:=P) (F:=F) (m:=m) (e:=e) (pn:=pn) (r:=[]) D N K hd
 rw [List.append_nil] at k3
 rw [k3]
 exact h K' k1 k2
theorem kp_of {H K K':Heap} (h:Kp H K) (hl:K.length≤K'.length) (hg:∀ i,i<H.length→K'[i]? = K[i]?):Kp H K':=by
 have h1:=h.len
 unfold Kp
 apply List.ext_getElem?
 intro i
 by_cases hi:i<H.length
 ·rw [List.getElem?_take,if_pos hi,hg i hi,h.get hi]
 ·rw [List.getElem?_eq_none (by rw [List.length_take];omega),List.getElem?_eq_none (by omega)]
theorem sn_loop {w:Wm} (ho:w.Ok) {vr:AV} (hvr:vr.scalar=true) {D:List (Int×Int)} (hD:∀ p∈D,-1000≤p.1∧p.1≤1000∧0≤p.2∧p.2≤20) {lo hi:Int} (hlo : -100≤lo∧lo≤100) (hhi : -100≤hi∧hi≤100) {P R:Nat} (kPH:H[P]? = some (.box (.agg [I w.mark,I w.n1,I w.n2,I w.c1,I w.c2,vr]))) (kR:H[R]? = some (.box (.agg [I lo,I hi]))) {m it:Nat} (h1:H.length+3≤it) (h2:H.length+3≤m) (n1:it≠m) {Q:Done→Prop}
  (hQ:∀ K,Kp H K→Q ⟨.ret (.agg [I (mnD w.mark lo hi D),I (mxD w.mark lo hi D)]),K,none⟩) :
  ∀ (q:Nat) (seen rest:List Nat),rest.length=q→Met D.length seen rest→∀ (K:Heap) (Df:List ADefer),SnAt H (mnD w.mark lo hi (atD D seen)) (mxD w.mark lo hi (atD D seen)) K→DK (H.length+3) K K.length Df→K[it]? = some (.iter m D.length seen)→K[m]? = some (.map 81 (enP D)) →
   ∀ E:Env,E.get 1=.func (.func 45) [] [.ptr P 0,.ptr R 0]→E.get 4=.ptr H.length 0→E.get 5=.ptr (H.length+1) 0→E.get 6=.ptr (H.length+2) 0→E.get 12=.ptr it 0 →
   KW cfg0 zA0 (.exec ⟨44,none,false,H.length⟩ (zA7 Tryz.f44 4) ⟨E,Df,K,none⟩) Q:=by
 have hk':True:=trivial
 have lP:=(List.getElem?_eq_some_iff.1 kPH).1
 have lR:=(List.getElem?_eq_some_iff.1 kR).1
 intro q
 induction q with
 | zero =>
  intro seen rest hq hmet K Df hK hDK k1 k2 E g1 g4 g5 g6 g12
  simp only [zAb,zA4,zA7,zAa,zA3,↓reduceIte,Option.some.injEq,Nat.reduceEqDiff,reduceCtorEq,Tryz.f44]
  rw [kw_inLoop]
  simp -implicitDefEqProofs (maxSteps:=1000000) (disch:=first|rfl|omega|assumption) only [go_sem,g1,g4,g5,g6,g12,ltT,ltF,leT,hk']
  refine kw_nx (e:=E) (df:=Df) (H:=K) (pn:=none) (n:=D.length) (m:=m) (seen:=seen) (li:=it) (kt:=81) (es:=enP D) (by simp -implicitDefEqProofs (maxSteps:=1000000) (disch:=first|rfl|omega|assumption) only [go_sem,g1,g4,g5,g6,g12,ltT,ltF,leT,hk']) (by simp -implicitDefEqProofs (maxSteps:=1000000) (disch:=first|rfl|omega|assumption) only [go_sem,g1,g4,g5,g6,g12,ltT,ltF,leT,hk']) k1 k2 (enP_len D) ?_ ?_
  ·intro hall
   have hre:=hmet.fin hall
   rw [hre] at hmet
   have hset:K.set it (.iter m D.length seen)=K:=set_self k1
   rw [hset]
   have p1:=mnD_perm (m:=w.mark) (lo:=lo) (hi:=hi) (atD_perm hmet.done)
   have p2:=mxD_perm (m:=w.mark) (lo:=lo) (hi:=hi) (atD_perm hmet.done)
   rw [p1,p2] at hK
   have hl:=hK.len
   have e0:H.length<K.length:=by omega
   have e1:H.length+1<K.length:=by omega
   have ks:=hK.s
   have kz:=hK.z
   obtain ⟨K2,hK2⟩:∃ K2,K.set H.length (.box (.agg [I (mnD w.mark lo hi D),I (mxD w.mark lo hi D)]))=K2:=⟨_,rfl⟩
   have n2:K2.length=K.length:=by rw [← hK2,List.length_set]
   have hkp:Kp H K2:=by rw [← hK2];exact hK.old.set (Nat.le_refl _) _
   have hdk2:DK (H.length+3) K2 K.length Df:=hDK.mono (Nat.le_refl _) fun i hi hd=>by
    rw [← hK2]
    by_cases e:i=H.length
    ·subst e;rw [kz] at hd;cases hd
    ·rw [List.getElem?_set_ne (Ne.symm e)];exact hd
   have kc:K2[H.length]? = some (.box (.agg [I (mnD w.mark lo hi D),I (mxD w.mark lo hi D)])):=by rw [← hK2,List.getElem?_set_self e0]
   generalize mnD w.mark lo hi D=x at *
   generalize mxD w.mark lo hi D=y at *
   simp -implicitDefEqProofs (maxSteps:=1000000) (disch:=first|rfl|omega|assumption) only [go_sem,g1,g4,g5,g6,g12,ltT,ltF,leT,hk',zA6 e1,ks,zA6 e0,kz,hK2]
   refine end_DK hdk2 fun K3 n3 g3=>?_
   have k3:K3[H.length]? = some (.box (.agg [I x,I y])):=by rw [g3 _ (by omega)];exact kc
   have e3:H.length<K3.length:=by omega
   have hkp3:Kp H K3:=kp_of hkp (by omega) fun i hi=>g3 i (by omega)
   simp -implicitDefEqProofs (maxSteps:=1000000) (disch:=first|rfl|omega|assumption) only [go_sem,g1,g4,g5,g6,g12,ltT,ltF,leT,hk',zA6 e3,k3]
   exact hQ K3 hkp3
  ·intro i hi hs
   obtain ⟨rest',h1,h2⟩:=hmet.go hi hs
   omega
 | succ q ih =>
  intro seen rest hq hmet K Df hK hDK k1 k2 E g1 g4 g5 g6 g12
  simp only [zAb,zA4,zA7,zAa,zA3,↓reduceIte,Option.some.injEq,Nat.reduceEqDiff,reduceCtorEq,Tryz.f44]
  rw [kw_inLoop]
  simp -implicitDefEqProofs (maxSteps:=1000000) (disch:=first|rfl|omega|assumption) only [go_sem,g1,g4,g5,g6,g12,ltT,ltF,leT,hk']
  refine kw_nx (e:=E) (df:=Df) (H:=K) (pn:=none) (n:=D.length) (m:=m) (seen:=seen) (li:=it) (kt:=81) (es:=enP D) (by simp -implicitDefEqProofs (maxSteps:=1000000) (disch:=first|rfl|omega|assumption) only [go_sem,g1,g4,g5,g6,g12,ltT,ltF,leT,hk']) (by simp -implicitDefEqProofs (maxSteps:=1000000) (disch:=first|rfl|omega|assumption) only [go_sem,g1,g4,g5,g6,g12,ltT,ltF,leT,hk']) k1 k2 (enP_len D) ?_ ?_
  ·intro hall
   have hre:=hmet.fin hall
   rw [hre] at hq
   simp at hq
  ·intro i hii hns
   obtain ⟨rest',hm1,hm2⟩:=hmet.go hii hns
   have hat:=enP_at hii
   have hat2:=enP_at2 hii
   have hlm:=enP_len D
   have hpm:D.getD i (0,0)∈D:=by rw [List.getD_eq_getElem?_getD,List.getElem?_eq_getElem hii];exact List.getElem_mem hii
   have hpb:=hD _ hpm
   have key:=ih (seen++[i]) rest' (by omega) hm1
   have hv1:mnD w.mark lo hi (atD D (seen++[i]))=mnT (mnD w.mark lo hi (atD D seen)) ((D.getD i (0,0)).1+grW w.mark (D.getD i (0,0)).2 lo) ((D.getD i (0,0)).1+grW w.mark (D.getD i (0,0)).2 hi):=by
    simp only [mnD,atD,List.map_append,List.foldl_append,List.map_cons,List.map_nil,List.foldl_cons,List.foldl_nil]
   have hv2:mxD w.mark lo hi (atD D (seen++[i]))=mxT (mxD w.mark lo hi (atD D seen)) ((D.getD i (0,0)).1+grW w.mark (D.getD i (0,0)).2 lo) ((D.getD i (0,0)).1+grW w.mark (D.getD i (0,0)).2 hi):=by
    simp only [mxD,atD,List.map_append,List.foldl_append,List.map_cons,List.map_nil,List.foldl_cons,List.foldl_nil]
   rw [hv1,hv2] at key
   obtain ⟨p,hp⟩:∃ p,D.getD i (0,0)=p:=⟨_,rfl⟩
   rw [hp] at hat hat2 hpb key
   rw [hat]
   generalize mnD w.mark lo hi (atD D seen)=sa at *
   generalize mxD w.mark lo hi (atD D seen)=sb at *
   have il:=(List.getElem?_eq_some_iff.1 k1).1
   have q1:(K.set it (.iter m D.length (seen++[i])))[it]? = some (.iter m D.length (seen++[i])):=by rw [List.getElem?_set_self il]
   have q2:(K.set it (.iter m D.length (seen++[i])))[m]? = some (.map 81 (enP D)):=by rw [List.getElem?_set_ne n1];exact k2
   have hK1:=hK.set h1 (.iter m D.length (seen++[i]))
   have hDK1:DK (H.length+3) (K.set it (.iter m D.length (seen++[i]))) K.length Df:=hDK.mono (Nat.le_refl _) fun j hj hd=>by
    by_cases e:j=it
    ·subst e;rw [k1] at hd;cases hd
    ·rw [List.getElem?_set_ne (Ne.symm e)];exact hd
   have hl1:(K.set it (.iter m D.length (seen++[i]))).length=K.length:=List.length_set
   generalize K.set it (.iter m D.length (seen++[i]))=K1 at q1 q2 hK1 hDK1 hl1 ⊢
   rw [← hl1] at hDK1
   have p1:=(List.getElem?_eq_some_iff.1 q1).1
   have p2:=(List.getElem?_eq_some_iff.1 q2).1
   obtain ⟨pa,pc⟩:=p
   simp only [Go.Ab.kP] at *
   have hS1:=fun G:Heap=>wa_Shows1 (pa,pc) P R G
   obtain ⟨e,he⟩:∃ e:Env,e=(19,.func (.func 47) [] [.ptr (K1.length+2) 0,.ptr P 0,.ptr R 0])::(18,.agg [I pa,I pc])::(17,.func (.func 45) [] [.ptr P 0,.ptr R 0])::(7,.ptr K1.length 0)::(16,.agg [I pa,I pc])::(15,.tup [.agg [I pa,I pc],.bool true])::(14,.bool true)::(13,.tup [.bool true,.agg [I pa,I pc],.bool true])::E:=⟨_,rfl⟩
   obtain ⟨r,hr⟩:∃ r,rS e (K1.length+3)=r:=⟨_,rfl⟩
   have hst:r.state=.ready:=by rw [← hr];rfl
   have hpe:r.pending=none:=by rw [← hr];rfl
   have e1:e.get 1=.func (.func 45) [] [.ptr P 0,.ptr R 0]:=by rw [he];exact g1
   have e4:e.get 4=.ptr H.length 0:=by rw [he];exact g4
   have e5:e.get 5=.ptr (H.length+1) 0:=by rw [he];exact g5
   have e6:e.get 6=.ptr (H.length+2) 0:=by rw [he];exact g6
   have e12:e.get 12=.ptr it 0:=by rw [he];exact g12
   have hr2:=hr
   simp only [zAq,zAo,List.nil_append,List.append_nil,List.cons_append,List.getElem?_cons_zero,List.getElem?_cons_succ,Tryz.f44,rS] at hr2
   simp -implicitDefEqProofs (maxSteps:=1000000) (disch:=first|rfl|omega|assumption) only [go_sem,g1,g4,g5,g6,g12,ltT,ltF,leT,hk',q1,q2,hlm,hat2,zA6 p1,zA6 p2,hS1]
   rw [← he,hr2]
   have hKl:=hK1.len
   have hKb:=hK1.app [.box (.agg [I pa,I pc]),.box (.agg [I pa,I pc]),.box (.func (.func 46) [.agg [I pa,I pc]] []),.dfr,.loop r]
   have b1:(K1++[.box (.agg [I pa,I pc]),.box (.agg [I pa,I pc]),.box (.func (.func 46) [.agg [I pa,I pc]] []),.dfr,.loop r])[it]? = some (.iter m D.length (seen++[i])):=by rw [List.getElem?_append_left p1];exact q1
   have b2:(K1++[.box (.agg [I pa,I pc]),.box (.agg [I pa,I pc]),.box (.func (.func 46) [.agg [I pa,I pc]] []),.dfr,.loop r])[m]? = some (.map 81 (enP D)):=by rw [List.getElem?_append_left p2];exact q2
   have b3:(K1++[AO.box (.agg [I pa,I pc]),.box (.agg [I pa,I pc]),.box (.func (.func 46) [.agg [I pa,I pc]] []),.dfr,.loop r])[K1.length+4]? = some (.loop r):=by rw [zAe];rfl
   have b4:(K1++[AO.box (.agg [I pa,I pc]),.box (.agg [I pa,I pc]),.box (.func (.func 46) [.agg [I pa,I pc]] []),.dfr,.loop r])[K1.length+2]? = some (.box (.func (.func 46) [.agg [I pa,I pc]] [])):=by rw [zAe];rfl
   have b5:(K1++[AO.box (.agg [I pa,I pc]),.box (.agg [I pa,I pc]),.box (.func (.func 46) [.agg [I pa,I pc]] []),.dfr,.loop r])[K1.length+3]? = some .dfr:=by rw [zAe];rfl
   have hDb:DK (H.length+3) (K1++[AO.box (.agg [I pa,I pc]),.box (.agg [I pa,I pc]),.box (.func (.func 46) [.agg [I pa,I pc]] []),.dfr,.loop r]) (K1.length+3) Df:=hDK1.mono (by omega) fun j hj hd=>by rw [List.getElem?_append_left hj];exact hd
   have hlb:(K1++[AO.box (.agg [I pa,I pc]),.box (.agg [I pa,I pc]),.box (.func (.func 46) [.agg [I pa,I pc]] []),.dfr,.loop r]).length=K1.length+5:=by simp
   generalize K1++[AO.box (.agg [I pa,I pc]),.box (.agg [I pa,I pc]),.box (.func (.func 46) [.agg [I pa,I pc]] []),.dfr,.loop r]=Kb at hKb b1 b2 b3 b4 b5 hDb hlb ⊢
   have kPb:Kb[P]? = some (.box (.agg [I w.mark,I w.n1,I w.n2,I w.c1,I w.c2,vr])):=by rw [hKb.old.get lP];exact kPH
   have kRb:Kb[R]? = some (.box (.agg [I lo,I hi])):=by rw [hKb.old.get lR];exact kR
   refine sh_it ho hvr (e:=e) (d:=K1.length+3) (p5:=H.length+1) (p6:=H.length+2) e5 e6 (by rw [hr];exact b3) hKb.s hKb.f (by omega) (by omega) (by omega) (n:=pa) (c:=pc) ⟨hpb.1,hpb.2.1⟩ ⟨hpb.2.2.1,hpb.2.2.2⟩ hlo hhi b4 kPb kRb (by omega) (by omega) (by omega) ?_
   have hKc:=hKb.put (mnT sa (pa+grW w.mark pc lo) (pa+grW w.mark pc hi)) (mxT sb (pa+grW w.mark pc lo) (pa+grW w.mark pc hi))
   have ot:∀ j,j≠H.length+1→(Kb.set (H.length+1) (.box (.agg [I (mnT sa (pa+grW w.mark pc lo) (pa+grW w.mark pc hi)),I (mxT sb (pa+grW w.mark pc lo) (pa+grW w.mark pc hi))])))[j]? = Kb[j]? := fun j hj=>List.getElem?_set_ne (Ne.symm hj)
   have hlc:(Kb.set (H.length+1) (.box (.agg [I (mnT sa (pa+grW w.mark pc lo) (pa+grW w.mark pc hi)),I (mxT sb (pa+grW w.mark pc lo) (pa+grW w.mark pc hi))]))).length=K1.length+5:=by rw [List.length_set,hlb]
   generalize mnT sa (pa+grW w.mark pc lo) (pa+grW w.mark pc hi)=na at *
   generalize mxT sb (pa+grW w.mark pc lo) (pa+grW w.mark pc hi)=nb at *
   generalize Kb.set (H.length+1) (.box (.agg [I na,I nb]))=Kc at *
   have c4:Kc[K1.length+4]? = some (.loop r):=by rw [ot _ (by omega)];exact b3
   simp -implicitDefEqProofs (maxSteps:=1000000) (disch:=first|rfl|omega|assumption) only [go_sem,g1,g4,g5,g6,g12,ltT,ltF,leT,hk',c4,hst,hpe,ne_eq,reduceCtorEq,not_false_eq_true,true_and]
   have hKd:=hKc.set (show H.length+3≤K1.length+4 by omega) (.loop ⟨.exhausted,none,r.fn,r.env,r.params,r.assign,r.body,r.dfr⟩)
   refine key _ (.collected (K1.length+3)::Df) hKd ⟨by omega,by rw [List.length_set];omega,by rw [List.getElem?_set_ne (by omega),ot _ (by omega)];exact b5,hDb.mono (Nat.le_refl _) fun j hj hd=>by rw [List.getElem?_set_ne (by omega),ot _ (by rintro rfl;rw [hKb.s] at hd;cases hd)];exact hd⟩ (by rw [List.getElem?_set_ne (by omega),ot _ (by omega)];exact b1) (by rw [List.getElem?_set_ne (by omega),ot _ (by omega)];exact b2) _ ?_ ?_ ?_ ?_ ?_
   ·exact e1
   ·exact e4
   ·exact e5
   ·exact e6
   ·exact e12
noncomputable def dW (w:Wm):List (Int×Int):=Classical.choose (mapP_is (goodL w))
theorem dW_eq (w:Wm):mapP (goodL w)=enP (dW w):=(Classical.choose_spec (mapP_is (goodL w))).1
theorem dW_mem (w:Wm) (p:Int×Int):p∈dW w↔p∈goodL w:=(Classical.choose_spec (mapP_is (goodL w))).2 p
theorem wa_span {w:Wm} (ho:w.Ok) {vr:AV} {b P R:Nat} (hb:H[b]? = some (.box (w.av vr))) (hr:SlOk H 4 vr (w.rs.map rdA)) (hg:goodL w≠[]) {lo hi:Int} (hlo : -100≤lo∧lo≤100) (hhi : -100≤hi∧hi≤100) (kPH:H[P]? = some (.box (w.av vr))) (kR:H[R]? = some (.box (.agg [I lo,I hi]))) :
  rootL cfg0 zA0 44 [.ptr b 0,.func (.func 45) [] [.ptr P 0,.ptr R 0]] H=some ⟨.ret (.agg [I (mnD w.mark lo hi (dW w)),I (mxD w.mark lo hi (dW w))]),H,none⟩:=by
 have hk':True:=trivial
 refine root_some ?_
 have hvr:=hr.scal
 have lb:=(List.getElem?_eq_some_iff.1 hb).1
 obtain ⟨G,hto⟩:=wa_told (H:=H++[.box (.agg [I 0,I 0]),.box (.agg [I 1099511627776,I (-1099511627776)]),.box (.func (.func 70) [] [])]) ho (vr:=vr) (b:=b) (by rw [List.getElem?_append_left lb];exact hb) (hr.app _) hg
 rw [dW_eq] at hto
 have hDb:∀ p∈dW w,-1000≤p.1∧p.1≤1000∧0≤p.2∧p.2≤20:=fun p hp=>by
  have h1:=(goodL_mem ho).1 ((dW_mem w p).1 hp)
  have h2:=ho.len
  have h3:=ho.co
  omega
 have hlm:=enP_len (dW w)
 have hfn:∀ b D,finN (cfg0.grow 44 999999) (cfg0.grow 44 999998) b D=zAi b D:=fun _ _=>rfl
 have hsn:SnAt H (mnD w.mark lo hi (atD (dW w) [])) (mxD w.mark lo hi (atD (dW w) [])) (H++([.box (.agg [I 0,I 0]),.box (.agg [I 1099511627776,I (-1099511627776)]),.box (.func (.func 70) [] [])]++(.map 81 (enP (dW w))::G))) :=
  ⟨(Kp.refl H).app _,by simp only [List.length_append,List.length_cons,List.length_nil];omega,by rw [get_at];rfl,by rw [zAe];rfl,by rw [zAe];rfl⟩
 have km:(H++([AO.box (.agg [I 0,I 0]),.box (.agg [I 1099511627776,I (-1099511627776)]),.box (.func (.func 70) [] [])]++(.map 81 (enP (dW w))::G)))[H.length+3]? = some (.map 81 (enP (dW w))):=by rw [zAe];rfl
 simp only [List.append_assoc,List.length_append,List.length_cons,List.length_nil,Nat.zero_add,Nat.reduceAdd] at hto
 have hl3:H.length+3<(H++([AO.box (.agg [I 0,I 0]),.box (.agg [I 1099511627776,I (-1099511627776)]),.box (.func (.func 70) [] [])]++(.map 81 (enP (dW w))::G))).length:=(List.getElem?_eq_some_iff.1 km).1
 generalize H++([AO.box (.agg [I 0,I 0]),.box (.agg [I 1099511627776,I (-1099511627776)]),.box (.func (.func 70) [] [])]++(.map 81 (enP (dW w))::G))=K at hto hsn km hl3
 rw [kw_enter fn44 rfl (by simp [Tryz.f44])]
 simp -implicitDefEqProofs (maxSteps:=1000000) (disch:=first|rfl|omega|assumption) only [go_sem,ltT,ltF,leT,hto,km,hlm]
 refine sn_loop ho hvr hDb hlo hhi (P:=P) (R:=R) (by simpa only [Wm.av] using kPH) kR (m:=H.length+3) (it:=K.length) (by omega) (by omega) (by omega) (fun K' hK'=>?_) _ [] _ rfl (Met.zero (dW w).length) (K++[.iter (H.length+3) (dW w).length []]) [] (hsn.app _) trivial (by simp) (by rw [List.getElem?_append_left hl3];exact km) _ ?_ ?_ ?_ ?_ ?_
 ·have hK2:K'.take H.length=H:=hK'
  simp -implicitDefEqProofs (maxSteps:=1000000) (disch:=first|rfl|omega|assumption) only [go_sem,ltT,ltF,leT,hfn,hK2]
  done
 ·rfl
 ·rfl
 ·rfl
 ·rfl
 ·rfl
theorem wa_isWarmth (lo hi:Int) (H:Heap):zA8 cfg0 zA0 false 43 [.agg [I lo,I hi]] H none=some ⟨.ret (.bool (spW lo hi (-100) 100 200)),H,none⟩:=by
 have h1:=fun G:Heap=>wa_isSpan lo hi (-100) 100 200 (by omega) (by omega) G
 refine (zA1 fn43 rfl (by simp [Tryz.f43])).trans ?_
 simp -implicitDefEqProofs (maxSteps:=1000000) (disch:=first|rfl|omega|assumption) only [go_sem,ltT,ltF,leT,h1]
 done
theorem wa_Shows {w:Wm} (ho:w.Ok) {vr:AV} (hr:SlOk H 4 vr (w.rs.map rdA)) (hg:goodL w≠[]) {lo hi:Int} (hlo : -100≤lo) (hlh:lo≤hi) (hhi:hi≤100) :
  zA8 cfg0 zA0 false 14 [w.av vr,.agg [I lo,I hi]] H none=some ⟨.ret (.tup [.agg [I (mnD w.mark lo hi (dW w)),I (mxD w.mark lo hi (dW w))],I 0]),H,none⟩:=by
 have hk':True:=trivial
 have hs1:=hr.scal
 have h0:=fun G=>wa_isWarmth lo hi G
 rw [show spW lo hi (-100) 100 200=true by simp only [spW,Bool.and_eq_true,decide_eq_true_eq];omega] at h0
 have hop:=wa_open (H:=H++[.box (w.av vr),.box (.agg [I lo,I hi]),.box (.agg [I 0,I 0]),.box (I 0)]) ho (hr.app _)
 have hsp:=wa_span (H:=H++[.box (w.av vr),.box (.agg [I lo,I hi]),.box (.agg [I 0,I 0]),.box (I 0),.box (w.av vr),.box (w.av vr)]) ho (vr:=vr) (b:=H.length+5) (P:=H.length) (R:=H.length+1) (by rw [zAe];rfl) (hr.app _) hg (lo:=lo) (hi:=hi) (by omega) (by omega) (by rw [get_at];rfl) (by rw [zAe];rfl)
 generalize mnD w.mark lo hi (dW w)=x at *
 generalize mxD w.mark lo hi (dW w)=y at *
 have han:=fun G:Heap=>wa_ansn (H.length+3) G
 simp only [Wm.av,List.length_append,List.length_cons,List.length_nil,List.append_assoc,List.cons_append,List.nil_append,Nat.zero_add,Nat.add_assoc,Nat.reduceAdd] at hop hsp ⊢
 refine (zA1 fn14 rfl (by simp [Tryz.f14])).trans ?_
 simp -implicitDefEqProofs (maxSteps:=1000000) (disch:=first|rfl|omega|assumption) only [go_sem,ltT,ltF,leT,hs1,h0]
 rw [zAg];rotate_left;kernel_rfl
 simp -implicitDefEqProofs (maxSteps:=1000000) (disch:=first|rfl|omega|assumption) only [go_sem,ltT,ltF,leT,hs1,h0,hop]
 simp -implicitDefEqProofs (maxSteps:=1000000) (disch:=first|rfl|omega|assumption) only [go_sem,ltT,ltF,leT,hsp,han]
 done
end Go.Ab
