/- Draws; layer 4 by its reference. -/
import Derived.Test.YtjhnlfgleicnjaaGreatKK5
import Derived.Test.YtjhnlfgleicnjaaGreatKK6
namespace Go.Ab
open Go.Proofs
set_option linter.unusedSimpArgs false
set_option linter.unusedVariables false
set_option maxRecDepth 100000
set_option maxHeartbeats 2000000
variable {H:Heap}
abbrev B16 (n:Int):AV:=.int .u16 n
def drawZ (us:List Int) (a lo hi:Int):Int:=if us.length=0 then lo else lo+(us.getD (a%(us.length:Int)).toNat 0+71*a)%(hi-lo+1)
theorem draw_bd {us:List Int} {a lo hi:Int} (h:lo≤hi):lo≤drawZ us a lo hi∧drawZ us a lo hi≤hi:=by
 simp only [drawZ]
 split
 ·omega
 ·have h1:=Int.emod_nonneg (us.getD (a%(us.length:Int)).toNat 0+71*a) (show hi-lo+1≠0 by omega)
  have h2:=Int.emod_lt_of_pos (us.getD (a%(us.length:Int)).toNat 0+71*a) (show 0<hi-lo+1 by omega)
  omega
theorem sl16 (fl:Bool) (us:List Int):SlOk H 1 (.sl fl (us.map B16)) (us.map B16):=⟨rfl,fun x hx=>by
 obtain ⟨i,_,rfl⟩:=List.mem_map.1 hx;rfl⟩
theorem law_draw {us:List Int} {fl:Bool} (hb:∀ i,i<us.length→0≤us.getD i 0∧us.getD i 0≤65535) (hl:us.length≤9223372036854775807) {p1 p2:Nat} {a:Int} (ha:0≤a∧a≤1000) (h1:H[p1]? = some (.box (I a))) (h2:H[p2]? = some (.box (.sl fl (us.map B16)))) (hpp:p1≠p2) {lo hi:Int} (hn : -1000≤lo∧lo≤hi∧hi≤1000) :
  zA8 cfg0 zA0 false 23 [.agg [I lo,I hi],.ptr p1 0,.ptr p2 0] H none=some ⟨.ret (I (drawZ us (a+1) lo hi)),H.set p1 (.box (I (a+1))),none⟩:=by
 have hl1:p1<H.length:=(List.getElem?_eq_some_iff.1 h1).1
 have hl2:p2<H.length:=(List.getElem?_eq_some_iff.1 h2).1
 have g1:∀ A,(H++A)[p1]? = some (.box (I a)):=fun A=>by rw [List.getElem?_append_left hl1];exact h1
 have g2:∀ A,(H++A).set p1 (.box (I (a+1)))=H.set p1 (.box (I (a+1)))++A:=fun A=>by rw [List.set_append_left _ _ hl1]
 have hsl:(H.set p1 (.box (I (a+1)))).length=H.length:=List.length_set
 have g3:∀ A,(H.set p1 (.box (I (a+1)))++A)[p2]? = some (.box (.sl fl (us.map B16))):=fun A=>by rw [List.getElem?_append_left (by rw [hsl];exact hl2),List.getElem?_set_ne hpp];exact h2
 have g4:∀ A,(H.set p1 (.box (I (a+1)))++A)[p1]? = some (.box (I (a+1))):=fun A=>by rw [List.getElem?_append_left (by rw [hsl];exact hl1),List.getElem?_set_self hl1]
 have g5:∀ A,(H.set p1 (.box (I (a+1)))++A)[H.length]? = A[0]? := fun A=>by rw [← hsl,get_at]
 have g6:∀ A,(H.set p1 (.box (I (a+1)))++A).take H.length=H.set p1 (.box (I (a+1))):=fun A=>by rw [← hsl,List.take_left]
 have hlm:(us.map B16).length=us.length:=List.length_map _
 have zn:¬ hi-lo+1=0:=by omega
 by_cases h0:us.length=0
 ·have hz:((us.length:Int)==0)=true:=by simp [h0]
  have e1:drawZ us (a+1) lo hi=lo:=by rw [drawZ,if_pos h0]
  rw [e1]
  refine (zA1 fn23 rfl (by simp [Tryz.f23])).trans ?_
  simp -implicitDefEqProofs (maxSteps:=1000000) (disch:=first|rfl|omega|assumption) only [go_sem,ltT,ltF,leT,g1,g2,g3,g4,g5,g6,hlm,hz]
  done
 ·have hz:((us.length:Int)==0)=false:=by simp [h0]
  have zl:¬ (us.length:Int)=0:=by omega
  have q0:=Int.emod_nonneg (a+1) zl
  have q1:=Int.emod_lt_of_pos (a+1) (show (0:Int)<us.length by omega)
  have e1:(a+1).tmod (us.length:Int)=(a+1)%(us.length:Int):=Int.tmod_eq_emod_of_nonneg (by omega)
  have hbx:=hb ((a+1)%(us.length:Int)).toNat (by omega)
  have e2:lo+(us.getD ((a+1)%(us.length:Int)).toNat 0+71*(a+1)).tmod (hi-lo+1)=drawZ us (a+1) lo hi:=by rw [drawZ,if_neg h0,Int.tmod_eq_emod_of_nonneg (by omega)]
  have hdb:=draw_bd (us:=us) (a:=a+1) hn.2.1
  have q2:=Int.emod_nonneg (us.getD ((a+1)%(us.length:Int)).toNat 0+71*(a+1)) (show hi-lo+1≠0 by omega)
  have q3:=Int.emod_lt_of_pos (us.getD ((a+1)%(us.length:Int)).toNat 0+71*(a+1)) (show 0<hi-lo+1 by omega)
  have q4:(us.getD ((a+1)%(us.length:Int)).toNat 0+71*(a+1)).tmod (hi-lo+1)=(us.getD ((a+1)%(us.length:Int)).toNat 0+71*(a+1))%(hi-lo+1):=Int.tmod_eq_emod_of_nonneg (by omega)
  obtain ⟨a1,a2,a3,a4,a5⟩:=(sl16 (H:=H.set p1 (.box (I (a+1)))) fl us).fF (d:=0)
  generalize drawZ us (a+1) lo hi=dz at *
  generalize (a+1)%(us.length:Int)=k at *
  obtain ⟨u,hu⟩:∃ u,us.getD k.toNat 0=u:=⟨_,rfl⟩
  rw [hu] at e2 hbx q2 q3 q4
  rw [← q4] at q2 q3
  have w1:IntKind.i64.wrap (lo+(u+71*(a+1)).tmod (hi-lo+1))=dz:=by rw [e2];exact w64 (by omega) (by omega)
  refine (zA1 fn23 rfl (by simp [Tryz.f23])).trans ?_
  simp -implicitDefEqProofs (maxSteps:=1000000) (disch:=first|rfl|omega|assumption) only [go_sem,ltT,ltF,leT,g1,g2,g3,g4,g5,g6,hlm,hz,zn,zl,e1]
  rw [zAg];rotate_left;kernel_rfl
  simp -implicitDefEqProofs (maxSteps:=1000000) (disch:=first|rfl|omega|assumption) only [go_sem,ltT,ltF,leT,g1,g2,g3,g4,g5,g6,hlm,hz,zn,zl,e1,a1,a2,a3,a4,hu,w1]
  done
theorem law_draws (v:AV) (hv:v.scalar=true) (hs:∃ b l,v=.sl b l) (H:Heap):zA8 cfg0 zA0 false 6 [v] H none=some ⟨.ret (.func (.func 23) [] [.ptr (H.length+1) 0,.ptr H.length 0]),H++[.box v,.box (I 0)],none⟩:=by
 obtain ⟨b,l,rfl⟩:=hs
 refine (zA1 fn6 rfl (by simp [Tryz.f6])).trans ?_
 simp -implicitDefEqProofs (maxSteps:=1000000) (disch:=first|rfl|omega|assumption) only [go_sem,ltT,ltF,leT]
 done
def badS (bs:List (Int×Int)) (i:Nat):Bool:=decide ((bs.getD i (0,0)).1<1)||(decide ((bs.getD i (0,0)).2<(bs.getD i (0,0)).1)||(decide (500<(bs.getD i (0,0)).2)||decide (6<(bs.getD i (0,0)).2-(bs.getD i (0,0)).1)))
def stB (bs:List (Int×Int)) (film:Int×Int):Bool:=decide (bs.length≤8)&&(decide (0≤film.1)&&(decide (film.1≤film.2)&&(decide (film.2≤5)&&!anyF (badS bs) 0 bs.length)))
def smp9:Stl:=⟨[⟨40,44,4,4,10,12⟩,⟨-6,-5,2,3,0,0⟩],5,12,[⟨1,4,8,10⟩]⟩
theorem law_settle9 (H:Heap):zA8 cfg0 zA0 false 21 [] H none=some ⟨.ret (.agg [.sl true (smp9.bs.map Blk.av),I 5,I 12,.sl true (smp9.ts.map Tch.av)]),H,none⟩:=by
 have hk':True:=trivial
 simp only [smp9,List.map_cons,List.map_nil,Blk.av,Tch.av]
 refine (zA1 fn21 rfl (by simp [Tryz.f21])).trans ?_
 simp -implicitDefEqProofs (maxSteps:=1000000) (disch:=first|rfl|omega|assumption) only [go_sem,ltT,ltF,leT,law_span]
 done
theorem smp9_ok:smp9.Ok:=okB_ok (by decide +kernel)
theorem smp9_all:allR smp9 0 0 2=some 7:=by decide +kernel
theorem smp9_exc:warmLo smp9 (1:Nat) (smp9.bs.getD 1 ⟨0,0,0,0,0,0⟩) 5=4∧warmHi smp9 (1:Nat) (smp9.bs.getD 1 ⟨0,0,0,0,0,0⟩) 5=6:=by decide +kernel
theorem smp9_lat:findN (fun j=>settl (smp9.touch (0:Nat) (((12:Nat):Int)-j) 20) (0:Nat) (smp9.bs.getD 0 ⟨0,0,0,0,0,0⟩) 12) 0 (12+1)=some 5:=by decide +kernel
theorem law_awake9 (H:Heap):zA8 cfg0 zA0 false 5 [] H none=some ⟨.ret (.bool true),H,none⟩:=by
 have hk':True:=trivial
 have hb:∀ G:Heap,SlOk G 6 (.sl true (smp9.bs.map Blk.av)) (smp9.bs.map Blk.av):=fun G=>⟨rfl,fun x hx=>by obtain ⟨i,_,rfl⟩:=List.mem_map.1 hx;rfl⟩
 have ht:∀ G:Heap,SlOk G 4 (.sl true (smp9.ts.map Tch.av)) (smp9.ts.map Tch.av):=fun G=>⟨rfl,fun x hx=>by obtain ⟨i,_,rfl⟩:=List.mem_map.1 hx;rfl⟩
 have h1:=fun G:Heap=>se_All smp9_ok (hb G) (ht G)
 have h2:=fun G:Heap=>se_Excess smp9_ok (hb G) (ht G) (k:=1) (m:=5) (by decide) (by decide)
 have h3:=fun G:Heap=>se_Latest smp9_ok (by decide) (hb G) (ht G) (k:=0) (n:=12) (heat:=20) (by decide) (by decide) (by decide)
 have e1:smp9.bs.length=2:=rfl
 rw [smp9_exc.1,smp9_exc.2] at h2
 rw [smp9_lat] at h3
 simp only [e1,smp9_all] at h1
 have e2:smp9.near=5:=rfl
 have e3:smp9.last=12:=rfl
 simp only [e2,e3,Int.natCast_zero,show ((1:Nat):Int)=1 from rfl,show ((5:Nat):Int)=5 from rfl,show ((12:Nat):Int)=12 from rfl,show (12:Int)-5=7 from rfl] at h1 h2 h3
 have h4:=law_settle9
 generalize AV.sl true (smp9.bs.map Blk.av)=v1 at h1 h2 h3 h4
 generalize AV.sl true (smp9.ts.map Tch.av)=v2 at h1 h2 h3 h4
 refine (zA1 fn5 rfl (by simp [Tryz.f5])).trans ?_
 simp -implicitDefEqProofs (maxSteps:=1000000) (disch:=first|rfl|omega|assumption) only [go_sem,ltT,ltF,leT,law_span,h1,h2,h3,h4,law_awake4]
 rw [zAg];rotate_left;kernel_rfl
 simp -implicitDefEqProofs (maxSteps:=1000000) (disch:=first|rfl|omega|assumption) only [go_sem,ltT,ltF,leT,law_span,h1,h2,h3,h4,law_awake4]
 done
theorem lt16 (us:List Int) (N:Nat):ltL N (us.map B16)=true:=ltL_map (fun _=>rfl) _
def rdX (w:Wm) (us:List Int) (a n c:Int) (j:Nat):List Rd:=(List.range j).map fun i=>⟨(w.rs.getD i rd0).w1,(w.rs.getD i rd0).w2,n+grW w.mark c (drawZ us (a+i+1) (w.rs.getD i rd0).w1 (w.rs.getD i rd0).w2)-1,n+grW w.mark c (drawZ us (a+i+1) (w.rs.getD i rd0).w1 (w.rs.getD i rd0).w2)⟩
theorem rdX_len (w:Wm) (us:List Int) (a n c:Int) (j:Nat):(rdX w us a n c j).length=j:=by simp [rdX]
theorem rdX_succ (w:Wm) (us:List Int) (a n c:Int) (j:Nat):rdX w us a n c (j+1)=rdX w us a n c j++[⟨(w.rs.getD j rd0).w1,(w.rs.getD j rd0).w2,n+grW w.mark c (drawZ us (a+j+1) (w.rs.getD j rd0).w1 (w.rs.getD j rd0).w2)-1,n+grW w.mark c (drawZ us (a+j+1) (w.rs.getD j rd0).w1 (w.rs.getD j rd0).w2)⟩]:=by simp [rdX,List.range_succ]
theorem lw_l18 {s:Stl} {vb vt vw vr:AV} (hvb:SlOk H 6 vb (s.bs.map Blk.av)) (hvt:SlOk H 4 vt (s.ts.map Tch.av)) (tw:vw.lt (H.length+8)=true) {w:Wm} (hw:w.Ok) (hvr:SlOk H 4 vr (w.rs.map rdA)) (fl:Bool) {us:List Int} (hu:∀ i,i<us.length→0≤us.getD i 0∧us.getD i 0≤65535) (hul:us.length≤9223372036854775807) (b:Blk) {n c:Int} (hn : -1000≤n∧n≤1000) (hc:0≤c∧c≤20) (al er off hea mi:Int) (i nb:Nat) {a:Int} (ha:0≤a∧a≤500) (K:List Item) (R:Option Done) (hK:∀ E:Env,E.get 1=vw→E.get 6=.ptr H.length 0→E.get 13=.func (.func 23) [] [.ptr (H.length+2) 0,.ptr (H.length+1) 0]→E.get 14=I al→E.get 15=I er→E.get 16=I off→E.get 17=I hea→E.get 18=I mi→E.get 19=I i→E.get 20=.ptr (H.length+3) 0→E.get 22=.ptr (H.length+5) 0→E.get 23=.ptr (H.length+6) 0→E.get 104=vb→E.get 105=I nb→E.get 106=I i→Option.map (zAi H.length) (zAh cfg0 zA0 ⟨3,none,false,H.length⟩ K ⟨E,[],H++[.box (.agg [vb,I s.near,I s.last,vt]),.box (.sl fl (us.map B16)),.box (I (a+w.rs.length)),.box (.agg [I b.x0,I b.x1,I b.s0,I b.s1,I b.g0,I b.g1]),.box (.agg [I w.mark,I w.n1,I w.n2,I w.c1,I w.c2,vr]),.box (.agg [I n,I c]),.box (.agg [I w.mark,I w.n1,I w.n2,I w.c1,I w.c2,.gsl (H.length+7) w.rs.length]),.grow 4 ((rdX w us a n c w.rs.length).map rdA)],none⟩)=R)  :
  ∀ (q j:Nat),j+q=w.rs.length→∀ (G:Heap),∀ E:Env,E.get 1=vw→E.get 6=.ptr H.length 0→E.get 13=.func (.func 23) [] [.ptr (H.length+2) 0,.ptr (H.length+1) 0]→E.get 14=I al→E.get 15=I er→E.get 16=I off→E.get 17=I hea→E.get 18=I mi→E.get 19=I i→E.get 20=.ptr (H.length+3) 0→E.get 21=.ptr (H.length+4) 0→E.get 22=.ptr (H.length+5) 0→E.get 23=.ptr (H.length+6) 0→E.get 104=vb→E.get 105=I nb→E.get 106=I i→E.get 137=vr→E.get 138=I w.rs.length→E.get 139=I j →
  Option.map (zAi H.length) (zAh cfg0 zA0 ⟨3,none,false,H.length⟩ (zAb Tryz.f3 18::.inBlock 2::K) ⟨E,[],H++(.box (.agg [vb,I s.near,I s.last,vt])::.box (.sl fl (us.map B16))::.box (I (a+j))::.box (.agg [I b.x0,I b.x1,I b.s0,I b.s1,I b.g0,I b.g1])::.box (.agg [I w.mark,I w.n1,I w.n2,I w.c1,I w.c2,vr])::.box (.agg [I n,I c])::.box (.agg [I w.mark,I w.n1,I w.n2,I w.c1,I w.c2,.gsl (H.length+7) j])::.grow 4 ((rdX w us a n c j).map rdA)::G),none⟩)=R:=by
 intro q
 obtain ⟨a1,a2,a3,a4,a5⟩:=hvr.fF (d:=rd0)
 have hs1:=hvb.scal
 have hs2:=hvt.scal
 have hs3:=hvr.scal
 have t1:=hvb.ltn 8
 have t2:=hvt.ltn 8
 have t3:=hvr.ltn 8
 have t4:=fun N=>lt16 us N
 have t5:∀ N j,ltL N ((rdX w us a n c j).map rdA)=true:=fun N j=>rdLt _ _
 have hm:=hw.mark
 have hmany:=hw.many
 have hD:=fun (a lo hi:Int) (X Y:AO) (G:Heap) (ha:0≤a∧a≤1000) (hn : -1000≤lo∧lo≤hi∧hi≤1000)=>show zA8 cfg0 zA0 false 23 [.agg [I lo,I hi],.ptr (H.length+2) 0,.ptr (H.length+1) 0] (H++(.box (.agg [vb,I s.near,I s.last,vt])::.box (.sl fl (us.map B16))::.box (I a)::.box (.agg [I b.x0,I b.x1,I b.s0,I b.s1,I b.g0,I b.g1])::.box (.agg [I w.mark,I w.n1,I w.n2,I w.c1,I w.c2,vr])::.box (.agg [I n,I c])::X::Y::G)) none=some ⟨.ret (I (drawZ us (a+1) lo hi)),H++(.box (.agg [vb,I s.near,I s.last,vt])::.box (.sl fl (us.map B16))::.box (I (a+1))::.box (.agg [I b.x0,I b.x1,I b.s0,I b.s1,I b.g0,I b.g1])::.box (.agg [I w.mark,I w.n1,I w.n2,I w.c1,I w.c2,vr])::.box (.agg [I n,I c])::X::Y::G),none⟩ from by
  have:=law_draw (H:=H++(.box (.agg [vb,I s.near,I s.last,vt])::.box (.sl fl (us.map B16))::.box (I a)::.box (.agg [I b.x0,I b.x1,I b.s0,I b.s1,I b.g0,I b.g1])::.box (.agg [I w.mark,I w.n1,I w.n2,I w.c1,I w.c2,vr])::.box (.agg [I n,I c])::X::Y::G)) (us:=us) (fl:=fl) hu hul (p1:=H.length+2) (p2:=H.length+1) (a:=a) ha (by rw [zAe];rfl) (by rw [zAe];rfl) (by omega) (lo:=lo) (hi:=hi) hn
  rw [zBs] at this
  exact this
 have hSh:=fun (t:Int) (ht : -100000≤t∧t≤100000) (G:Heap)=>rf_Show (mk:=w.mark) (n1:=w.n1) (n2:=w.n2) (c1:=w.c1) (c2:=w.c2) (by omega) vr hs3 (n:=n) (c:=c) (t:=t) (by omega) (by omega) ht G
 induction q with
 | zero =>
  intro j hj G E g1 g6 g13 g14 g15 g16 g17 g18 g19 g20 g21 g22 g23 g104 g105 g106 g137 g138 g139
  have hk':¬ (j:Int)<((w.rs.length:Nat):Int):=by omega
  have ej:j=w.rs.length:=by omega
  subst ej
  simp only [zAb,zA4,zA7,zAa,zA3,↓reduceIte,Option.some.injEq,Nat.reduceEqDiff,reduceCtorEq,Tryz.f3]
  rw [zA2]
  simp -implicitDefEqProofs (maxSteps:=1000000) (disch:=first|rfl|omega|assumption) only [go_sem,g1,g6,g13,g14,g15,g16,g17,g18,g19,g20,g21,g22,g23,g104,g105,g106,g137,g138,g139,ltT,ltF,leT,hk',hs1,hs2,hs3,t1,t2,t3,t4,t5,tw]
  exact hK _ (by rfl) (by rfl) (by rfl) (by rfl) (by rfl) (by rfl) (by rfl) (by rfl) (by rfl) (by rfl) (by rfl) (by rfl) (by rfl) (by rfl) (by rfl)
 | succ q ih =>
  intro j hj G E g1 g6 g13 g14 g15 g16 g17 g18 g19 g20 g21 g22 g23 g104 g105 g106 g137 g138 g139
  have hk':(j:Int)<((w.rs.length:Nat):Int):=by omega
  have hk2:j<w.rs.length:=by omega
  obtain ⟨r,hr⟩:∃ r,w.rs.getD j rd0=r:=⟨_,rfl⟩
  have hcl:∀ x:Rd,(rdA x).cells=[I x.w1,I x.w2,I x.s1,I x.s2]:=fun _=>rfl
  have hro:r∈w.rs:=by rw [← hr,List.getD_eq_getElem?_getD,List.getElem?_eq_getElem hk2];exact List.getElem_mem hk2
  obtain ⟨⟨r1,r2⟩,r3,r4⟩:=hw.rd r hro
  have hsu:=rdX_succ w us a n c j
  rw [hr] at hsu
  obtain ⟨w1,w2,s1,s2⟩:=r
  simp only at r1 r2 r3 r4 hsu
  have hD1:=fun (X Y:AO) (G:Heap)=>hD (a+j) w1 w2 X Y G (by omega) (by omega)
  have d1:=draw_bd (us:=us) (a:=a+j+1) (show w1≤w2 by omega)
  generalize drawZ us (a+j+1) w1 w2=t at *
  have hSh1:=fun G:Heap=>hSh t (by omega) G
  have hgb:=grW_bd (a:=w.mark) (b:=c) (c:=t) (by omega) (by omega) (by omega)
  have hv : -1000000000≤n+grW w.mark c t∧n+grW w.mark c t≤1000000000:=by omega
  generalize n+grW w.mark c t=v at *
  have e1:IntKind.i64.wrap (v-1)=v-1:=w64 (by omega) (by omega)
  have hln:((rdX w us a n c j).map rdA).length=j:=by rw [List.length_map,rdX_len]
  have hadd:∀ (o0 o1 o2 o3 o4 o5 o6:AO) (G:Heap),zBo (H++(o0::o1::o2::o3::o4::o5::o6::.grow 4 ((rdX w us a n c j).map rdA)::G)) 4 true (.gsl (H.length+7) j) [.agg [I w1,I w2,I (v-1),I v]]=some (.gsl (H.length+7) (j+1),H++(o0::o1::o2::o3::o4::o5::o6::.grow 4 ((rdX w us a n c (j+1)).map rdA)::G)):=fun o0 o1 o2 o3 o4 o5 o6 G=>by
   rw [add_gsl (xs:=(rdX w us a n c j).map rdA) (by rw [zAe];rfl) hln (by rfl) (by rfl) (by simp;omega),zBs,hsu]
   simp [rdA]
  have key:=fun G=>ih (j+1) (by omega) G
  have e2:a+((j+1:Nat):Int)=a+j+1:=by omega
  rw [e2] at key
  simp only [zAb,zA4,zA7,zAa,zA3,↓reduceIte,Option.some.injEq,Nat.reduceEqDiff,reduceCtorEq,Tryz.f3]
  rw [zA2]
  simp -implicitDefEqProofs (maxSteps:=1000000) (disch:=first|rfl|omega|assumption) only [go_sem,g1,g6,g13,g14,g15,g16,g17,g18,g19,g20,g21,g22,g23,g104,g105,g106,g137,g138,g139,ltT,ltF,leT,hk',hs1,hs2,hs3,t1,t2,t3,t4,t5,tw,a1,a2,a3,a4,a5,hr,hcl]
  rw [zAg];rotate_left;kernel_rfl
  simp -implicitDefEqProofs (maxSteps:=1000000) (disch:=first|rfl|omega|assumption) only [go_sem,g1,g6,g13,g14,g15,g16,g17,g18,g19,g20,g21,g22,g23,g104,g105,g106,g137,g138,g139,ltT,ltF,leT,hk',hs1,hs2,hs3,hD1,hSh1]
  rw [zAg];rotate_left;kernel_rfl
  simp -implicitDefEqProofs (maxSteps:=1000000) (disch:=first|rfl|omega|assumption) only [go_sem,g1,g6,g13,g14,g15,g16,g17,g18,g19,g20,g21,g22,g23,g104,g105,g106,g137,g138,g139,ltT,ltF,leT,hk',hs1,hs2,hs3,law_span,e1,hadd]
  exact key _ _ (by rfl) (by rfl) (by rfl) (by rfl) (by rfl) (by rfl) (by rfl) (by rfl) (by rfl) (by rfl) (by rfl) (by rfl) (by rfl) (by rfl) (by rfl) (by rfl) (by rfl) (by rfl) (by rfl)
def tc0:Tch:=⟨0,0,0,0⟩
def htX (s:Stl) (us:List Int) (a:Int) (j:Nat):List Int:=(List.range j).map fun (i:Nat)=>drawZ us (a+i+1) (s.ts.getD i ⟨0,0,0,0⟩).h0 (s.ts.getD i ⟨0,0,0,0⟩).h1
theorem htX_len (s:Stl) (us:List Int) (a:Int) (j:Nat):(htX s us a j).length=j:=by simp [htX]
theorem htX_succ (s:Stl) (us:List Int) (a:Int) (j:Nat):htX s us a (j+1)=htX s us a j++[drawZ us (a+j+1) (s.ts.getD j ⟨0,0,0,0⟩).h0 (s.ts.getD j ⟨0,0,0,0⟩).h1]:=by simp [htX,List.range_succ]
theorem lw_l28 {s:Stl} (ho:s.Ok) {vb vt vw vr:AV} (hvb:SlOk H 6 vb (s.bs.map Blk.av)) (hvt:SlOk H 4 vt (s.ts.map Tch.av)) (tw:vw.lt (H.length+8)=true) {w:Wm} (hvr:SlOk H 4 vr (w.rs.map rdA)) (xs:List Rd) (fl:Bool) {us:List Int} (hu:∀ i,i<us.length→0≤us.getD i 0∧us.getD i 0≤65535) (hul:us.length≤9223372036854775807) (b:Blk) (n c:Int) (al er off hea mi room:Int) (i nb:Nat) {a:Int} (ha:0≤a∧a≤500) (K:List Item) (R:Option Done) (hK:∀ E:Env,E.get 1=vw→E.get 6=.ptr H.length 0→E.get 13=.func (.func 23) [] [.ptr (H.length+2) 0,.ptr (H.length+1) 0]→E.get 14=I al→E.get 15=I er→E.get 16=I off→E.get 17=I hea→E.get 18=I mi→E.get 19=I i→E.get 20=.ptr (H.length+3) 0→E.get 22=.ptr (H.length+5) 0→E.get 23=.ptr (H.length+6) 0→E.get 27=I room→E.get 29=.gsl (H.length+7) s.ts.length→E.get 104=vb→E.get 105=I nb→E.get 106=I i→Option.map (zAi H.length) (zAh cfg0 zA0 ⟨3,none,false,H.length⟩ K ⟨E,[],H++[.box (.agg [vb,I s.near,I s.last,vt]),.box (.sl fl (us.map B16)),.box (I (a+s.ts.length)),.box (.agg [I b.x0,I b.x1,I b.s0,I b.s1,I b.g0,I b.g1]),.box (.agg [I w.mark,I w.n1,I w.n2,I w.c1,I w.c2,vr]),.box (.agg [I n,I c]),.box (.agg [I w.mark,I w.n1,I w.n2,I w.c1,I w.c2,.sl false (xs.map rdA)]),.grow 1 ((htX s us a s.ts.length).map I)],none⟩)=R)  :
  ∀ (q j:Nat),j+q=s.ts.length→∀ (G:Heap),∀ E:Env,E.get 1=vw→E.get 6=.ptr H.length 0→E.get 13=.func (.func 23) [] [.ptr (H.length+2) 0,.ptr (H.length+1) 0]→E.get 14=I al→E.get 15=I er→E.get 16=I off→E.get 17=I hea→E.get 18=I mi→E.get 19=I i→E.get 20=.ptr (H.length+3) 0→E.get 22=.ptr (H.length+5) 0→E.get 23=.ptr (H.length+6) 0→E.get 27=I room→E.get 29=.gsl (H.length+7) j→E.get 104=vb→E.get 105=I nb→E.get 106=I i→E.get 172=vt→E.get 173=I s.ts.length→E.get 174=I j →
  Option.map (zAi H.length) (zAh cfg0 zA0 ⟨3,none,false,H.length⟩ (zAb Tryz.f3 28::.inBlock 4::K) ⟨E,[],H++(.box (.agg [vb,I s.near,I s.last,vt])::.box (.sl fl (us.map B16))::.box (I (a+j))::.box (.agg [I b.x0,I b.x1,I b.s0,I b.s1,I b.g0,I b.g1])::.box (.agg [I w.mark,I w.n1,I w.n2,I w.c1,I w.c2,vr])::.box (.agg [I n,I c])::.box (.agg [I w.mark,I w.n1,I w.n2,I w.c1,I w.c2,.sl false (xs.map rdA)])::.grow 1 ((htX s us a j).map I)::G),none⟩)=R:=by
 intro q
 obtain ⟨a1,a2,a3,a4,a5⟩:=hvt.fF (d:=(⟨0,0,0,0⟩:Tch))
 have hs1:=hvb.scal
 have hs2:=hvt.scal
 have hs3:=hvr.scal
 have t1:=hvb.ltn 8
 have t2:=hvt.ltn 8
 have t3:=hvr.ltn 8
 have t4:=fun N=>lt16 us N
 have t5:∀ N j,ltL N ((htX s us a j).map I)=true:=fun N j=>ltL_map (fun _=>rfl) _
 have t6:∀ N,ltL N (xs.map rdA)=true:=fun N=>rdLt _ _
 have hmany:=ho.nt
 have hD:=fun (a lo hi:Int) (X Y:AO) (G:Heap) (ha:0≤a∧a≤1000) (hn : -1000≤lo∧lo≤hi∧hi≤1000)=>show zA8 cfg0 zA0 false 23 [.agg [I lo,I hi],.ptr (H.length+2) 0,.ptr (H.length+1) 0] (H++(.box (.agg [vb,I s.near,I s.last,vt])::.box (.sl fl (us.map B16))::.box (I a)::.box (.agg [I b.x0,I b.x1,I b.s0,I b.s1,I b.g0,I b.g1])::.box (.agg [I w.mark,I w.n1,I w.n2,I w.c1,I w.c2,vr])::.box (.agg [I n,I c])::X::Y::G)) none=some ⟨.ret (I (drawZ us (a+1) lo hi)),H++(.box (.agg [vb,I s.near,I s.last,vt])::.box (.sl fl (us.map B16))::.box (I (a+1))::.box (.agg [I b.x0,I b.x1,I b.s0,I b.s1,I b.g0,I b.g1])::.box (.agg [I w.mark,I w.n1,I w.n2,I w.c1,I w.c2,vr])::.box (.agg [I n,I c])::X::Y::G),none⟩ from by
  have:=law_draw (H:=H++(.box (.agg [vb,I s.near,I s.last,vt])::.box (.sl fl (us.map B16))::.box (I a)::.box (.agg [I b.x0,I b.x1,I b.s0,I b.s1,I b.g0,I b.g1])::.box (.agg [I w.mark,I w.n1,I w.n2,I w.c1,I w.c2,vr])::.box (.agg [I n,I c])::X::Y::G)) (us:=us) (fl:=fl) hu hul (p1:=H.length+2) (p2:=H.length+1) (a:=a) ha (by rw [zAe];rfl) (by rw [zAe];rfl) (by omega) (lo:=lo) (hi:=hi) hn
  rw [zBs] at this
  exact this
 induction q with
 | zero =>
  intro j hj G E g1 g6 g13 g14 g15 g16 g17 g18 g19 g20 g22 g23 g27 g29 g104 g105 g106 g172 g173 g174
  have hk':¬ (j:Int)<((s.ts.length:Nat):Int):=by omega
  have ej:j=s.ts.length:=by omega
  subst ej
  simp only [zAb,zA4,zA7,zAa,zA3,↓reduceIte,Option.some.injEq,Nat.reduceEqDiff,reduceCtorEq,Tryz.f3]
  rw [zA2]
  simp -implicitDefEqProofs (maxSteps:=1000000) (disch:=first|rfl|omega|assumption) only [go_sem,g1,g6,g13,g14,g15,g16,g17,g18,g19,g20,g22,g23,g27,g29,g104,g105,g106,g172,g173,g174,ltT,ltF,leT,hk',hs1,hs2,hs3,t1,t2,t3,t4,t5,t6,tw]
  exact hK _ (by rfl) (by rfl) (by rfl) (by rfl) (by rfl) (by rfl) (by rfl) (by rfl) (by rfl) (by rfl) (by rfl) (by rfl) (by rfl) (by rfl) (by rfl) (by rfl) (by rfl)
 | succ q ih =>
  intro j hj G E g1 g6 g13 g14 g15 g16 g17 g18 g19 g20 g22 g23 g27 g29 g104 g105 g106 g172 g173 g174
  have hk':(j:Int)<((s.ts.length:Nat):Int):=by omega
  have hk2:j<s.ts.length:=by omega
  obtain ⟨r,hr⟩:∃ r,s.ts.getD j ⟨0,0,0,0⟩=r:=⟨_,rfl⟩
  have hcl:∀ x:Tch,x.av.cells=[I x.b,I x.m,I x.h0,I x.h1]:=fun _=>rfl
  have hro:r∈s.ts:=by rw [← hr,List.getD_eq_getElem?_getD,List.getElem?_eq_getElem hk2];exact List.getElem_mem hk2
  obtain ⟨r1,r2,r3⟩:=ho.wf.ts r hro
  have hsu:=htX_succ s us a j
  rw [hr] at hsu
  obtain ⟨tb,tm,h0,h1⟩:=r
  simp only at r1 r2 r3 hsu
  have hD1:=fun (X Y:AO) (G:Heap)=>hD (a+j) h0 h1 X Y G (by omega) (by omega)
  generalize drawZ us (a+j+1) h0 h1=t at *
  have hln:((htX s us a j).map I).length=j:=by rw [List.length_map,htX_len]
  have hadd:∀ (o0 o1 o2 o3 o4 o5 o6:AO) (G:Heap),zBo (H++(o0::o1::o2::o3::o4::o5::o6::.grow 1 ((htX s us a j).map I)::G)) 1 false (.gsl (H.length+7) j) [I t]=some (.gsl (H.length+7) (j+1),H++(o0::o1::o2::o3::o4::o5::o6::.grow 1 ((htX s us a (j+1)).map I)::G)):=fun o0 o1 o2 o3 o4 o5 o6 G=>by
   rw [add_gsl (xs:=(htX s us a j).map I) (by rw [zAe];rfl) hln (by rfl) (by rfl) (by simp;omega),zBs,hsu]
   simp
  have key:=fun G=>ih (j+1) (by omega) G
  have e2:a+((j+1:Nat):Int)=a+j+1:=by omega
  rw [e2] at key
  simp only [zAb,zA4,zA7,zAa,zA3,↓reduceIte,Option.some.injEq,Nat.reduceEqDiff,reduceCtorEq,Tryz.f3]
  rw [zA2]
  simp -implicitDefEqProofs (maxSteps:=1000000) (disch:=first|rfl|omega|assumption) only [go_sem,g1,g6,g13,g14,g15,g16,g17,g18,g19,g20,g22,g23,g27,g29,g104,g105,g106,g172,g173,g174,ltT,ltF,leT,hk',hs1,hs2,hs3,t1,t2,t3,t4,t5,t6,tw,a1,a2,a3,a4,a5,hr,hcl,hD1,hadd]
  exact key _ _ (by rfl) (by rfl) (by rfl) (by rfl) (by rfl) (by rfl) (by rfl) (by rfl) (by rfl) (by rfl) (by rfl) (by rfl) (by rfl) (by rfl) (by rfl) (by rfl) (by rfl) (by rfl) (by rfl) (by rfl)
theorem lw_l34 {s:Stl} (ho:s.Ok) (hl5:s.ts.length≤5) {vb vt vw vr:AV} (hvb:SlOk H 6 vb (s.bs.map Blk.av)) (hvt:SlOk H 4 vt (s.ts.map Tch.av)) (tw:vw.lt (H.length+7)=true) {w:Wm} (hw:w.Ok) (hvr:SlOk H 4 vr (w.rs.map rdA)) {xs:List Rd} (hxo:(⟨w.mark,w.n1,w.n2,w.c1,w.c2,xs⟩:Wm).Ok) (fl:Bool) (us:List Int) {i:Nat} (hi:i<s.bs.length) {b:Blk} (hbe:s.bs.getD i ⟨0,0,0,0,0,0⟩=b) (hbo:b.Ok) {n c:Int} (hp:(n,c)∈goodL ⟨w.mark,w.n1,w.n2,w.c1,w.c2,xs⟩) (hn : -1000≤n∧n≤1000) (hc:0≤c∧c≤20) {hs:List Int} (hhl:hs.length=s.ts.length) (hhb:∀ i,-100≤hs.getD i 0∧hs.getD i 0≤100) (hht:∀ i,i<s.ts.length→(s.ts.getD i ⟨0,0,0,0⟩).h0≤hs.getD i 0∧hs.getD i 0≤(s.ts.getD i ⟨0,0,0,0⟩).h1) {k x0:Int} (hk0:b.s0≤k∧k≤b.s1) (hx0:b.x0≤x0∧x0≤b.x1) (al er:Int) {off:Int} (hof:0≤off∧off≤30000) (hea mi room:Int) (nb:Nat) (a:Int) {Lst:Nat} (hLs:s.last=Lst) (hF:∀ j:Nat,j≤Lst→er=0→al≤(j:Int)→s.near≤room → -off≤grW w.mark c (inZ s hs i k x0 j)∧grW w.mark c (inZ s hs i k x0 j)≤off) (K:List Item) (R:Option Done) (hK:∀ E:Env,E.get 1=vw→E.get 6=.ptr H.length 0→E.get 13=.func (.func 23) [] [.ptr (H.length+2) 0,.ptr (H.length+1) 0]→E.get 14=I al→E.get 15=I er→E.get 16=I off→E.get 17=I hea→E.get 18=I mi→E.get 19=I i→E.get 22=.ptr (H.length+5) 0→E.get 23=.ptr (H.length+6) 0→E.get 27=I room→E.get 29=.sl false (hs.map I)→E.get 32=I x0→E.get 33=I k→E.get 104=vb→E.get 105=I nb→E.get 106=I i→Option.map (zAi H.length) (zAh cfg0 zA0 ⟨3,none,false,H.length⟩ K ⟨E,[],H++[.box (.agg [vb,I s.near,I s.last,vt]),.box (.sl fl (us.map B16)),.box (I a),.box (.agg [I b.x0,I b.x1,I b.s0,I b.s1,I b.g0,I b.g1]),.box (.agg [I w.mark,I w.n1,I w.n2,I w.c1,I w.c2,vr]),.box (.agg [I n,I c]),.box (.agg [I w.mark,I w.n1,I w.n2,I w.c1,I w.c2,.sl false (xs.map rdA)])],none⟩)=R)  :
  ∀ (q j:Nat),j+q=Lst+1→∀ (G:Heap),∀ E:Env,E.get 1=vw→E.get 6=.ptr H.length 0→E.get 13=.func (.func 23) [] [.ptr (H.length+2) 0,.ptr (H.length+1) 0]→E.get 14=I al→E.get 15=I er→E.get 16=I off→E.get 17=I hea→E.get 18=I mi→E.get 19=I i→E.get 22=.ptr (H.length+5) 0→E.get 23=.ptr (H.length+6) 0→E.get 27=I room→E.get 29=.sl false (hs.map I)→E.get 32=I x0→E.get 33=I k→E.get 104=vb→E.get 105=I nb→E.get 106=I i→E.get 196=I (Lst+1:Nat)→E.get 197=I j →
  Option.map (zAi H.length) (zAh cfg0 zA0 ⟨3,none,false,H.length⟩ (zAb Tryz.f3 34::.inBlock 6::K) ⟨E,[],H++(.box (.agg [vb,I s.near,I s.last,vt])::.box (.sl fl (us.map B16))::.box (I a)::.box (.agg [I b.x0,I b.x1,I b.s0,I b.s1,I b.g0,I b.g1])::.box (.agg [I w.mark,I w.n1,I w.n2,I w.c1,I w.c2,vr])::.box (.agg [I n,I c])::.box (.agg [I w.mark,I w.n1,I w.n2,I w.c1,I w.c2,.sl false (xs.map rdA)])::G),none⟩)=R:=by
 intro q
 have hs1:=hvb.scal
 have hs2:=hvt.scal
 have hs3:=hvr.scal
 have t1:=hvb.ltn 7
 have t2:=hvt.ltn 7
 have t3:=hvr.ltn 7
 have t4:=fun N=>lt16 us N
 have t5:∀ N,ltL N (hs.map I)=true:=fun N=>ltL_map (fun _=>rfl) _
 have t6:∀ N,ltL N (xs.map rdA)=true:=fun N=>rdLt _ _
 have hla:=ho.last
 have hm:=hw.mark
 obtain ⟨o1,o2,o3,o4,o5,o6,o7,o8,o9⟩:=id hbo
 induction q with
 | zero =>
  intro j hj G E g1 g6 g13 g14 g15 g16 g17 g18 g19 g22 g23 g27 g29 g32 g33 g104 g105 g106 g196 g197
  have hk':¬ (j:Int)<((Lst+1:Nat):Int):=by omega
  simp only [zAb,zA4,zA7,zAa,zA3,↓reduceIte,Option.some.injEq,Nat.reduceEqDiff,reduceCtorEq,Tryz.f3]
  rw [zA2]
  simp -implicitDefEqProofs (maxSteps:=1000000) (disch:=first|rfl|omega|assumption) only [go_sem,g1,g6,g13,g14,g15,g16,g17,g18,g19,g22,g23,g27,g29,g32,g33,g104,g105,g106,g196,g197,ltT,ltF,leT,hk',hs1,hs2,hs3,t1,t2,t3,t4,t5,t6,tw]
  exact hK _ (by rfl) (by rfl) (by rfl) (by rfl) (by rfl) (by rfl) (by rfl) (by rfl) (by rfl) (by rfl) (by rfl) (by rfl) (by rfl) (by rfl) (by rfl) (by rfl) (by rfl) (by rfl)
 | succ q ih =>
  intro j hj G E g1 g6 g13 g14 g15 g16 g17 g18 g19 g22 g23 g27 g29 g32 g33 g104 g105 g106 g196 g197
  have hk':(j:Int)<((Lst+1:Nat):Int):=by omega
  have hk2:j<Lst+1:=by omega
  have hj:(j:Int)≤s.last:=by omega
  have hIn:=fun G:Heap=>rf_In (hvb.app G) (hvt.app G) (by omega) (slI (H:=H++G) false hs) hhl hhb i (k:=k) (x0:=x0) ⟨by omega,by omega⟩ ⟨by omega,by omega⟩ j (by omega)
  have hEx:=fun G:Heap=>se_Excess ho (hvb.app G) (hvt.app G) (k:=i) (m:=j) hi hj
  rw [hbe] at hEx
  have hw1:=inZ_warm hbo hht hk0 hx0 j (blk:=(i:Int))
  have hfin:=hF j (by omega)
  have htb:=inZ_bd s (by omega) hhb (blk:=(i:Int)) (k:=k) (x0:=x0) (by omega) (by omega) j
  generalize inZ s hs i k x0 j=t at *
  generalize hlo:warmLo s i b j=lo at *
  generalize hhi:warmHi s i b j=hi' at *
  have z1:¬ t<lo:=by omega
  have z2:¬ hi' < t:=by omega
  have hSh:=fun G:Heap=>rf_Show (mk:=w.mark) (n1:=w.n1) (n2:=w.n2) (c1:=w.c1) (c2:=w.c2) (by omega) (.sl false (xs.map rdA)) rfl (n:=n) (c:=c) (t:=t) (by omega) (by omega) (by omega) G
  have hgb : -100000000000≤grW w.mark c t∧grW w.mark c t≤100000000000:=by
   rw [grW_div]
   have q1:=mul_bd (a:=w.mark) (b:=c) (by omega) (by omega)
   have q2 : -43000≤t∧t≤43000:=by omega
   have q3:w.mark*c*t≤1000000*43000:=by
    rcases Int.le_total 0 t with h | h
    ·have:=Int.mul_le_mul q1.2 q2.2 h (by omega);omega
    ·have:=Int.mul_nonneg q1.1 (show 0 ≤ -t by omega)
     rw [Int.mul_neg] at this;omega
   have q4 : -(1000000*43000)≤w.mark*c*t:=by
    rcases Int.le_total 0 t with h | h
    ·have:=Int.mul_nonneg q1.1 h;omega
    ·have:=Int.mul_le_mul q1.2 (show -t≤43000 by omega) (by omega) (show (0:Int)≤1000000 by omega)
     rw [Int.mul_neg] at this;omega
   generalize w.mark*c*t=y at *
   omega
  have hsw:∀ (lo2 hi2:Int),lo2≤t→t≤hi2→¬ n+grW w.mark c t<mnD w.mark lo2 hi2 (dW ⟨w.mark,w.n1,w.n2,w.c1,w.c2,xs⟩)∧¬ mxD w.mark lo2 hi2 (dW ⟨w.mark,w.n1,w.n2,w.c1,w.c2,xs⟩)<n+grW w.mark c t:=fun lo2 hi2 h1 h2=>by
   have hm1:=(mnF_le w.mark lo2 hi2 (dW ⟨w.mark,w.n1,w.n2,w.c1,w.c2,xs⟩) 1099511627776).2 (n,c) ((dW_mem _ _).2 hp)
   have hm2:=(mxF_le w.mark lo2 hi2 (dW ⟨w.mark,w.n1,w.n2,w.c1,w.c2,xs⟩) (-1099511627776)).2 (n,c) ((dW_mem _ _).2 hp)
   have g1:=grW_mono (m:=w.mark) (c:=c) (by omega) (by omega) h1
   have g2:=grW_mono (m:=w.mark) (c:=c) (by omega) (by omega) h2
   simp only at hm1 hm2
   simp only [mnD,mxD]
   omega
  have e1:IntKind.i64.wrap (n+grW w.mark c t-n)=grW w.mark c t:=by rw [w64 (by omega) (by omega)];omega
  have e2:IntKind.i64.wrap (0-off) = -off:=by rw [w64 (by omega) (by omega)];omega
  have key:=fun G=>ih (j+1) (by omega) G
  by_cases c1 : -100≤lo
  ·by_cases c2:hi'≤100
   ·have hWs:=fun G:Heap=>wa_Shows (H:=G) hxo (slR G false xs) (List.ne_nil_of_mem hp) (lo:=lo) (hi:=hi') c1 (by omega) c2
    simp only [Wm.av] at hWs
    obtain ⟨z3,z4⟩:=hsw lo hi' (by omega) (by omega)
    generalize mnD w.mark lo hi' (dW ⟨w.mark,w.n1,w.n2,w.c1,w.c2,xs⟩)=s1 at *
    generalize mxD w.mark lo hi' (dW ⟨w.mark,w.n1,w.n2,w.c1,w.c2,xs⟩)=s2 at *
    by_cases d1:er=0
    ·have d1b:(er==0)=true:=by simp [d1]
     by_cases d2:al≤(j:Int)
     ·by_cases d3:s.near≤room
      ·obtain ⟨y1,y2⟩:=hfin d1 d2 d3
       have z5:¬ off<grW w.mark c t:=by omega
       have z6:¬ grW w.mark c t < -off:=by omega
       simp only [zAb,zA4,zA7,zAa,zA3,↓reduceIte,Option.some.injEq,Nat.reduceEqDiff,reduceCtorEq,Tryz.f3]
       rw [zA2]
       simp -implicitDefEqProofs (maxSteps:=1000000) (disch:=first|rfl|omega|assumption) only [go_sem,g1,g6,g13,g14,g15,g16,g17,g18,g19,g22,g23,g27,g29,g32,g33,g104,g105,g106,g196,g197,ltT,ltF,leT,hk',hs1,hs2,hs3,t1,t2,t3,t4,t5,t6,tw,hIn,hEx,z1,z2,hSh,c1,c2,hWs,z3,z4,e1,e2,d1b,d2,d3,z5,z6]
       exact key _ _ (by rfl) (by rfl) (by rfl) (by rfl) (by rfl) (by rfl) (by rfl) (by rfl) (by rfl) (by rfl) (by rfl) (by rfl) (by rfl) (by rfl) (by rfl) (by rfl) (by rfl) (by rfl) (by rfl) (by rfl)
      ·skip
       simp only [zAb,zA4,zA7,zAa,zA3,↓reduceIte,Option.some.injEq,Nat.reduceEqDiff,reduceCtorEq,Tryz.f3]
       rw [zA2]
       simp -implicitDefEqProofs (maxSteps:=1000000) (disch:=first|rfl|omega|assumption) only [go_sem,g1,g6,g13,g14,g15,g16,g17,g18,g19,g22,g23,g27,g29,g32,g33,g104,g105,g106,g196,g197,ltT,ltF,leT,hk',hs1,hs2,hs3,t1,t2,t3,t4,t5,t6,tw,hIn,hEx,z1,z2,hSh,c1,c2,hWs,z3,z4,e1,e2,d1b,d2,d3]
       exact key _ _ (by rfl) (by rfl) (by rfl) (by rfl) (by rfl) (by rfl) (by rfl) (by rfl) (by rfl) (by rfl) (by rfl) (by rfl) (by rfl) (by rfl) (by rfl) (by rfl) (by rfl) (by rfl) (by rfl) (by rfl)
     ·skip
      simp only [zAb,zA4,zA7,zAa,zA3,↓reduceIte,Option.some.injEq,Nat.reduceEqDiff,reduceCtorEq,Tryz.f3]
      rw [zA2]
      simp -implicitDefEqProofs (maxSteps:=1000000) (disch:=first|rfl|omega|assumption) only [go_sem,g1,g6,g13,g14,g15,g16,g17,g18,g19,g22,g23,g27,g29,g32,g33,g104,g105,g106,g196,g197,ltT,ltF,leT,hk',hs1,hs2,hs3,t1,t2,t3,t4,t5,t6,tw,hIn,hEx,z1,z2,hSh,c1,c2,hWs,z3,z4,e1,e2,d1b,d2]
      exact key _ _ (by rfl) (by rfl) (by rfl) (by rfl) (by rfl) (by rfl) (by rfl) (by rfl) (by rfl) (by rfl) (by rfl) (by rfl) (by rfl) (by rfl) (by rfl) (by rfl) (by rfl) (by rfl) (by rfl) (by rfl)
    ·have d1b:(er==0)=false:=by simp [d1]
     simp only [zAb,zA4,zA7,zAa,zA3,↓reduceIte,Option.some.injEq,Nat.reduceEqDiff,reduceCtorEq,Tryz.f3]
     rw [zA2]
     simp -implicitDefEqProofs (maxSteps:=1000000) (disch:=first|rfl|omega|assumption) only [go_sem,g1,g6,g13,g14,g15,g16,g17,g18,g19,g22,g23,g27,g29,g32,g33,g104,g105,g106,g196,g197,ltT,ltF,leT,hk',hs1,hs2,hs3,t1,t2,t3,t4,t5,t6,tw,hIn,hEx,z1,z2,hSh,c1,c2,hWs,z3,z4,e1,e2,d1b]
     exact key _ _ (by rfl) (by rfl) (by rfl) (by rfl) (by rfl) (by rfl) (by rfl) (by rfl) (by rfl) (by rfl) (by rfl) (by rfl) (by rfl) (by rfl) (by rfl) (by rfl) (by rfl) (by rfl) (by rfl) (by rfl)
   ·skip
    by_cases d1:er=0
    ·have d1b:(er==0)=true:=by simp [d1]
     by_cases d2:al≤(j:Int)
     ·by_cases d3:s.near≤room
      ·obtain ⟨y1,y2⟩:=hfin d1 d2 d3
       have z5:¬ off<grW w.mark c t:=by omega
       have z6:¬ grW w.mark c t < -off:=by omega
       simp only [zAb,zA4,zA7,zAa,zA3,↓reduceIte,Option.some.injEq,Nat.reduceEqDiff,reduceCtorEq,Tryz.f3]
       rw [zA2]
       simp -implicitDefEqProofs (maxSteps:=1000000) (disch:=first|rfl|omega|assumption) only [go_sem,g1,g6,g13,g14,g15,g16,g17,g18,g19,g22,g23,g27,g29,g32,g33,g104,g105,g106,g196,g197,ltT,ltF,leT,hk',hs1,hs2,hs3,t1,t2,t3,t4,t5,t6,tw,hIn,hEx,z1,z2,hSh,c1,c2,e1,e2,d1b,d2,d3,z5,z6]
       exact key _ _ (by rfl) (by rfl) (by rfl) (by rfl) (by rfl) (by rfl) (by rfl) (by rfl) (by rfl) (by rfl) (by rfl) (by rfl) (by rfl) (by rfl) (by rfl) (by rfl) (by rfl) (by rfl) (by rfl) (by rfl)
      ·skip
       simp only [zAb,zA4,zA7,zAa,zA3,↓reduceIte,Option.some.injEq,Nat.reduceEqDiff,reduceCtorEq,Tryz.f3]
       rw [zA2]
       simp -implicitDefEqProofs (maxSteps:=1000000) (disch:=first|rfl|omega|assumption) only [go_sem,g1,g6,g13,g14,g15,g16,g17,g18,g19,g22,g23,g27,g29,g32,g33,g104,g105,g106,g196,g197,ltT,ltF,leT,hk',hs1,hs2,hs3,t1,t2,t3,t4,t5,t6,tw,hIn,hEx,z1,z2,hSh,c1,c2,e1,e2,d1b,d2,d3]
       exact key _ _ (by rfl) (by rfl) (by rfl) (by rfl) (by rfl) (by rfl) (by rfl) (by rfl) (by rfl) (by rfl) (by rfl) (by rfl) (by rfl) (by rfl) (by rfl) (by rfl) (by rfl) (by rfl) (by rfl) (by rfl)
     ·skip
      simp only [zAb,zA4,zA7,zAa,zA3,↓reduceIte,Option.some.injEq,Nat.reduceEqDiff,reduceCtorEq,Tryz.f3]
      rw [zA2]
      simp -implicitDefEqProofs (maxSteps:=1000000) (disch:=first|rfl|omega|assumption) only [go_sem,g1,g6,g13,g14,g15,g16,g17,g18,g19,g22,g23,g27,g29,g32,g33,g104,g105,g106,g196,g197,ltT,ltF,leT,hk',hs1,hs2,hs3,t1,t2,t3,t4,t5,t6,tw,hIn,hEx,z1,z2,hSh,c1,c2,e1,e2,d1b,d2]
      exact key _ _ (by rfl) (by rfl) (by rfl) (by rfl) (by rfl) (by rfl) (by rfl) (by rfl) (by rfl) (by rfl) (by rfl) (by rfl) (by rfl) (by rfl) (by rfl) (by rfl) (by rfl) (by rfl) (by rfl) (by rfl)
    ·have d1b:(er==0)=false:=by simp [d1]
     simp only [zAb,zA4,zA7,zAa,zA3,↓reduceIte,Option.some.injEq,Nat.reduceEqDiff,reduceCtorEq,Tryz.f3]
     rw [zA2]
     simp -implicitDefEqProofs (maxSteps:=1000000) (disch:=first|rfl|omega|assumption) only [go_sem,g1,g6,g13,g14,g15,g16,g17,g18,g19,g22,g23,g27,g29,g32,g33,g104,g105,g106,g196,g197,ltT,ltF,leT,hk',hs1,hs2,hs3,t1,t2,t3,t4,t5,t6,tw,hIn,hEx,z1,z2,hSh,c1,c2,e1,e2,d1b]
     exact key _ _ (by rfl) (by rfl) (by rfl) (by rfl) (by rfl) (by rfl) (by rfl) (by rfl) (by rfl) (by rfl) (by rfl) (by rfl) (by rfl) (by rfl) (by rfl) (by rfl) (by rfl) (by rfl) (by rfl) (by rfl)
  ·skip
   by_cases d1:er=0
   ·have d1b:(er==0)=true:=by simp [d1]
    by_cases d2:al≤(j:Int)
    ·by_cases d3:s.near≤room
     ·obtain ⟨y1,y2⟩:=hfin d1 d2 d3
      have z5:¬ off<grW w.mark c t:=by omega
      have z6:¬ grW w.mark c t < -off:=by omega
      simp only [zAb,zA4,zA7,zAa,zA3,↓reduceIte,Option.some.injEq,Nat.reduceEqDiff,reduceCtorEq,Tryz.f3]
      rw [zA2]
      simp -implicitDefEqProofs (maxSteps:=1000000) (disch:=first|rfl|omega|assumption) only [go_sem,g1,g6,g13,g14,g15,g16,g17,g18,g19,g22,g23,g27,g29,g32,g33,g104,g105,g106,g196,g197,ltT,ltF,leT,hk',hs1,hs2,hs3,t1,t2,t3,t4,t5,t6,tw,hIn,hEx,z1,z2,hSh,c1,e1,e2,d1b,d2,d3,z5,z6]
      exact key _ _ (by rfl) (by rfl) (by rfl) (by rfl) (by rfl) (by rfl) (by rfl) (by rfl) (by rfl) (by rfl) (by rfl) (by rfl) (by rfl) (by rfl) (by rfl) (by rfl) (by rfl) (by rfl) (by rfl) (by rfl)
     ·skip
      simp only [zAb,zA4,zA7,zAa,zA3,↓reduceIte,Option.some.injEq,Nat.reduceEqDiff,reduceCtorEq,Tryz.f3]
      rw [zA2]
      simp -implicitDefEqProofs (maxSteps:=1000000) (disch:=first|rfl|omega|assumption) only [go_sem,g1,g6,g13,g14,g15,g16,g17,g18,g19,g22,g23,g27,g29,g32,g33,g104,g105,g106,g196,g197,ltT,ltF,leT,hk',hs1,hs2,hs3,t1,t2,t3,t4,t5,t6,tw,hIn,hEx,z1,z2,hSh,c1,e1,e2,d1b,d2,d3]
      exact key _ _ (by rfl) (by rfl) (by rfl) (by rfl) (by rfl) (by rfl) (by rfl) (by rfl) (by rfl) (by rfl) (by rfl) (by rfl) (by rfl) (by rfl) (by rfl) (by rfl) (by rfl) (by rfl) (by rfl) (by rfl)
    ·skip
     simp only [zAb,zA4,zA7,zAa,zA3,↓reduceIte,Option.some.injEq,Nat.reduceEqDiff,reduceCtorEq,Tryz.f3]
     rw [zA2]
     simp -implicitDefEqProofs (maxSteps:=1000000) (disch:=first|rfl|omega|assumption) only [go_sem,g1,g6,g13,g14,g15,g16,g17,g18,g19,g22,g23,g27,g29,g32,g33,g104,g105,g106,g196,g197,ltT,ltF,leT,hk',hs1,hs2,hs3,t1,t2,t3,t4,t5,t6,tw,hIn,hEx,z1,z2,hSh,c1,e1,e2,d1b,d2]
     exact key _ _ (by rfl) (by rfl) (by rfl) (by rfl) (by rfl) (by rfl) (by rfl) (by rfl) (by rfl) (by rfl) (by rfl) (by rfl) (by rfl) (by rfl) (by rfl) (by rfl) (by rfl) (by rfl) (by rfl) (by rfl)
   ·have d1b:(er==0)=false:=by simp [d1]
    simp only [zAb,zA4,zA7,zAa,zA3,↓reduceIte,Option.some.injEq,Nat.reduceEqDiff,reduceCtorEq,Tryz.f3]
    rw [zA2]
    simp -implicitDefEqProofs (maxSteps:=1000000) (disch:=first|rfl|omega|assumption) only [go_sem,g1,g6,g13,g14,g15,g16,g17,g18,g19,g22,g23,g27,g29,g32,g33,g104,g105,g106,g196,g197,ltT,ltF,leT,hk',hs1,hs2,hs3,t1,t2,t3,t4,t5,t6,tw,hIn,hEx,z1,z2,hSh,c1,e1,e2,d1b]
    exact key _ _ (by rfl) (by rfl) (by rfl) (by rfl) (by rfl) (by rfl) (by rfl) (by rfl) (by rfl) (by rfl) (by rfl) (by rfl) (by rfl) (by rfl) (by rfl) (by rfl) (by rfl) (by rfl) (by rfl) (by rfl)
theorem grW_small {m c t:Int} (hm:1≤m∧m≤100) (hc:0≤c∧c≤20) (ht : -100≤t∧t≤100) : -20000≤grW m c t∧grW m c t≤20000:=by
 rw [grW_div]
 have h1:0≤m*c:=Int.mul_nonneg (by omega) hc.1
 have h2:m*c≤100*20:=Int.mul_le_mul hm.2 hc.2 hc.1 (by omega)
 have h3:m*c*t≤2000*100:=by
  rcases Int.le_total 0 t with h | h
  ·exact Int.mul_le_mul h2 ht.2 h (by omega)
  ·have:=Int.mul_nonneg h1 (show 0 ≤ -t by omega)
   rw [Int.mul_neg] at this;omega
 have h4 : -(2000*100)≤m*c*t:=by
  rcases Int.le_total 0 t with h | h
  ·have:=Int.mul_nonneg h1 h;omega
  ·have:=Int.mul_le_mul h2 (show -t≤100 by omega) (by omega) (show (0:Int)≤100*20 by omega)
   rw [Int.mul_neg] at this;omega
 generalize m*c*t=x at *
 omega
theorem rdX_ok {w:Wm} (hw:w.Ok) (us:List Int) (a:Int) {n c:Int} (hn:w.n1≤n∧n≤w.n2) (hc:w.c1≤c∧c≤w.c2) :
  (⟨w.mark,w.n1,w.n2,w.c1,w.c2,rdX w us a n c w.rs.length⟩:Wm).Ok∧(n,c)∈goodL ⟨w.mark,w.n1,w.n2,w.c1,w.c2,rdX w us a n c w.rs.length⟩:=by
 have hm:=hw.mark
 have hl:=hw.len
 have hco:=hw.co
 have hmem:∀ r∈rdX w us a n c w.rs.length,∃ r0∈w.rs,∃ t,r0.w1≤t∧t≤r0.w2∧r=⟨r0.w1,r0.w2,n+grW w.mark c t-1,n+grW w.mark c t⟩:=fun r hr=>by
  simp only [rdX,List.mem_map,List.mem_range] at hr
  obtain ⟨i,hi,rfl⟩:=hr
  have hi2:w.rs.getD i rd0∈w.rs:=by rw [List.getD_eq_getElem?_getD,List.getElem?_eq_getElem hi];exact List.getElem_mem hi
  have hro:=(hw.rd _ hi2).1.1
  have hd:=draw_bd (us:=us) (a:=a+i+1) hro.2.1
  exact ⟨_,hi2,_,hd.1,hd.2,rfl⟩
 have hok:(⟨w.mark,w.n1,w.n2,w.c1,w.c2,rdX w us a n c w.rs.length⟩:Wm).Ok:=by
  refine ⟨hm,hl,hco,by simp only [rdX_len];exact hw.many,fun r hr=>?_⟩
  obtain ⟨r0,h1,t,h2,h3,rfl⟩:=hmem r hr
  obtain ⟨⟨h4,h5⟩,h6,h7⟩:=hw.rd r0 h1
  have hg:=grW_small (m:=w.mark) (c:=c) (t:=t) hm (by omega) (by omega)
  refine ⟨⟨h4,?_⟩,h6,?_⟩
  ·simp only;omega
  ·simp only;omega
 refine ⟨hok,(goodL_mem hok).2 ⟨hn,hc,?_⟩⟩
 simp only [badB,List.any_eq_false]
 intro r hr
 obtain ⟨r0,h1,t,h2,h3,rfl⟩:=hmem r hr
 simp only [Bool.not_eq_true',Bool.not_eq_false]
 simp only [canB,anyK_iff,anyN]
 refine ⟨t,by omega,by omega,?_⟩
 simp only [shB,wi_iff]
 omega
theorem htX_in (s:Stl) (hs:∀ t∈s.ts,-100≤t.h0∧t.h0≤t.h1∧t.h1≤100) (us:List Int) (a:Int):(∀ i,-100≤(htX s us a s.ts.length).getD i 0∧(htX s us a s.ts.length).getD i 0≤100)∧∀ i,i<s.ts.length→(s.ts.getD i ⟨0,0,0,0⟩).h0≤(htX s us a s.ts.length).getD i 0∧(htX s us a s.ts.length).getD i 0≤(s.ts.getD i ⟨0,0,0,0⟩).h1:=by
 have key:∀ i,i<s.ts.length→(s.ts.getD i ⟨0,0,0,0⟩).h0≤(htX s us a s.ts.length).getD i 0∧(htX s us a s.ts.length).getD i 0≤(s.ts.getD i ⟨0,0,0,0⟩).h1:=fun i hi=>by
  have hm:s.ts.getD i ⟨0,0,0,0⟩∈s.ts:=by rw [List.getD_eq_getElem?_getD,List.getElem?_eq_getElem hi];exact List.getElem_mem hi
  have h1:=hs _ hm
  have e:(htX s us a s.ts.length).getD i 0=drawZ us (a+i+1) (s.ts.getD i ⟨0,0,0,0⟩).h0 (s.ts.getD i ⟨0,0,0,0⟩).h1:=by simp [htX,hi]
  rw [e]
  exact draw_bd h1.2.1
 refine ⟨fun i=>?_,key⟩
 by_cases hi:i<s.ts.length
 ·have hm:s.ts.getD i ⟨0,0,0,0⟩∈s.ts:=by rw [List.getD_eq_getElem?_getD,List.getElem?_eq_getElem hi];exact List.getElem_mem hi
  have h1:=hs _ hm
  have:=key i hi
  omega
 ·have e:(htX s us a s.ts.length).getD i 0=0:=by
   rw [List.getD_eq_getElem?_getD,List.getElem?_eq_none (by rw [htX_len];omega)];rfl
  rw [e];omega
theorem ht_touch (s:Stl) {hs:List Int} (hhl:hs.length=s.ts.length) (hhb:∀ i,-100≤hs.getD i 0∧hs.getD i 0≤100) (hht:∀ i,i<s.ts.length→(s.ts.getD i ⟨0,0,0,0⟩).h0≤hs.getD i 0∧hs.getD i 0≤(s.ts.getD i ⟨0,0,0,0⟩).h1) (blk m:Int) {x:Int} (hx : -100≤x∧x≤100) :
  (∀ i,-100≤(hs++[x]).getD i 0∧(hs++[x]).getD i 0≤100)∧∀ i,i<(s.touch blk m x).ts.length→((s.touch blk m x).ts.getD i ⟨0,0,0,0⟩).h0≤(hs++[x]).getD i 0∧(hs++[x]).getD i 0≤((s.touch blk m x).ts.getD i ⟨0,0,0,0⟩).h1:=by
 have e1:∀ i,i<hs.length→(hs++[x]).getD i 0=hs.getD i 0:=fun i hi=>by
  rw [List.getD_eq_getElem?_getD,List.getElem?_append_left hi,← List.getD_eq_getElem?_getD]
 have e2:(hs++[x]).getD hs.length 0=x:=by simp
 constructor
 ·intro i
  rcases Nat.lt_trichotomy i hs.length with h | h | h
  ·rw [e1 i h];exact hhb i
  ·rw [h,e2];exact hx
  ·have:(hs++[x]).getD i 0=0:=by rw [List.getD_eq_getElem?_getD,List.getElem?_eq_none (by simp;omega)];rfl
   rw [this];omega
 ·intro i hi
  rw [touch_len] at hi
  by_cases h:i<s.ts.length
  ·have e3:(s.touch blk m x).ts.getD i ⟨0,0,0,0⟩=s.ts.getD i ⟨0,0,0,0⟩:=by
    simp only [Stl.touch]
    rw [List.getD_eq_getElem?_getD,List.getElem?_append_left h,← List.getD_eq_getElem?_getD]
   rw [e1 i (by omega),e3]
   exact hht i h
  ·have:i=s.ts.length:=by omega
   subst this
   have e3:(s.touch blk m x).ts.getD s.ts.length ⟨0,0,0,0⟩=⟨blk,m,x,x⟩:=by simp [Stl.touch]
   rw [e3,← hhl,e2]
   exact ⟨Int.le_refl _,Int.le_refl _⟩
theorem lw_l9 {s:Stl} (ho:s.Ok) (hl5:s.ts.length≤5) {vb vt vw:AV} (hvb:SlOk H 6 vb (s.bs.map Blk.av)) (hvt:SlOk H 4 vt (s.ts.map Tch.av)) {ws:List (Wm×AV)} (hvw:SlOk H 6 vw (ws.map fun x=>x.1.av x.2)) (hws:∀ x∈ws,SlOk H 4 x.2 (x.1.rs.map rdA)) (hwl:s.bs.length≤ws.length) (fl:Bool) {us:List Int} (hu:∀ i,i<us.length→0≤us.getD i 0∧us.getD i 0≤65535) (hul:us.length≤9223372036854775807) (al er:Int) (hall:er=0→allR s 0 0 s.bs.length=some al) {off:Int} (hof:0≤off∧off≤30000) {hea:Int} (hhe : -15≤hea∧hea≤15) {mi:Nat} (hmi:(mi:Int)≤s.last) :
  ∀ (q j:Nat),j+q=s.bs.length→∀ (G:Heap),∀ (a:Int),0≤a∧a≤20*(j:Int)→∀ E:Env,E.get 1=vw→E.get 6=.ptr H.length 0→E.get 13=.func (.func 23) [] [.ptr (H.length+2) 0,.ptr (H.length+1) 0]→E.get 14=I al→E.get 15=I er→E.get 16=I off→E.get 17=I hea→E.get 18=I mi→E.get 104=vb→E.get 105=I s.bs.length→E.get 106=I j →
  Option.map (zAi H.length) (zAh cfg0 zA0 ⟨3,none,false,H.length⟩ (zA7 Tryz.f3 9) ⟨E,[],H++(.box (.agg [vb,I s.near,I s.last,vt])::.box (.sl fl (us.map B16))::.box (I a)::G),none⟩)=some ⟨.ret (.bool true),H,none⟩:=by
 intro q
 obtain ⟨a1,a2,a3,a4,a5⟩:=hvb.fF (d:=(⟨0,0,0,0,0,0⟩:Blk))
 obtain ⟨b1,b2,b3,b4,b5⟩:=hvw.fF (d:=((⟨0,0,0,0,0,[]⟩:Wm),AV.undef))
 have hs1:=hvb.scal
 have hs2:=hvt.scal
 have hs3:=hvw.scal
 have t1:=hvb.ltn 3
 have t2:=hvt.ltn 3
 have t3:=hvw.ltn 3
 have t17:=hvb.ltn 7
 have t27:=hvt.ltn 7
 have t37:=hvw.ltn 7
 have t18:=hvb.ltn 8
 have t28:=hvt.ltn 8
 have t38:=hvw.ltn 8
 have t4:=fun N=>lt16 us N
 have hn4:=ho.n
 have l2:=hvt.len
 rw [List.length_map] at l2
 have hD:=fun (a lo hi:Int) (G:Heap) (ha:0≤a∧a≤1000) (hn : -1000≤lo∧lo≤hi∧hi≤1000)=>show zA8 cfg0 zA0 false 23 [.agg [I lo,I hi],.ptr (H.length+2) 0,.ptr (H.length+1) 0] (H++(.box (.agg [vb,I s.near,I s.last,vt])::.box (.sl fl (us.map B16))::.box (I a)::G)) none=some ⟨.ret (I (drawZ us (a+1) lo hi)),H++(.box (.agg [vb,I s.near,I s.last,vt])::.box (.sl fl (us.map B16))::.box (I (a+1))::G),none⟩ from by
  have:=law_draw (H:=H++(.box (.agg [vb,I s.near,I s.last,vt])::.box (.sl fl (us.map B16))::.box (I a)::G)) (us:=us) (fl:=fl) hu hul (p1:=H.length+2) (p2:=H.length+1) (a:=a) ha (by rw [zAe];rfl) (by rw [zAe];rfl) (by omega) (lo:=lo) (hi:=hi) hn
  rw [zBs] at this
  exact this
 induction q with
 | zero =>
  intro j hj G a ha E g1 g6 g13 g14 g15 g16 g17 g18 g104 g105 g106
  have hk':¬ (j:Int)<((s.bs.length:Nat):Int):=by omega
  simp only [zAb,zA4,zA7,zAa,zA3,↓reduceIte,Option.some.injEq,Nat.reduceEqDiff,reduceCtorEq,Tryz.f3]
  rw [zA2]
  simp -implicitDefEqProofs (maxSteps:=1000000) (disch:=first|rfl|omega|assumption) only [go_sem,g1,g6,g13,g14,g15,g16,g17,g18,g104,g105,g106,ltT,ltF,leT,hk',hs1,hs2,hs3,t1,t2,t3,t4,law_awake9]
  done
 | succ q ih =>
  intro j hj G a ha E g1 g6 g13 g14 g15 g16 g17 g18 g104 g105 g106
  have hk':(j:Int)<((s.bs.length:Nat):Int):=by omega
  have hk2:j<s.bs.length:=by omega
  obtain ⟨b,hbe⟩:∃ b,s.bs.getD j ⟨0,0,0,0,0,0⟩=b:=⟨_,rfl⟩
  have hbo:b.Ok:=by rw [← hbe];exact Blk.okb_ok (ho.bk j hk2)
  have hcl:∀ x:Blk,x.av.cells=[I x.x0,I x.x1,I x.s0,I x.s1,I x.g0,I x.g1]:=fun _=>rfl
  obtain ⟨⟨w,vr⟩,hwe⟩:∃ x,ws.getD j ((⟨0,0,0,0,0,[]⟩:Wm),AV.undef)=x:=⟨_,rfl⟩
  have hwm:(w,vr)∈ws:=by rw [← hwe,List.getD_eq_getElem?_getD,List.getElem?_eq_getElem (show j<ws.length by omega)];exact List.getElem_mem _
  have hvr:=hws _ hwm
  simp only at hvr
  have hs4:=hvr.scal
  have hcw:(w.av vr).cells=[I w.mark,I w.n1,I w.n2,I w.c1,I w.c2,vr]:=by
   have:=hvr.scal
   simp only [Wm.av,AV.cells]
  have l3:=hvr.len
  rw [List.length_map] at l3
  have t57:=hvr.ltn 7
  have t58:=hvr.ltn 8
  by_cases c0:40<(w.rs.length:Int)
  ·skip
   simp only [zAb,zA4,zA7,zAa,zA3,↓reduceIte,Option.some.injEq,Nat.reduceEqDiff,reduceCtorEq,Tryz.f3]
   rw [zA2]
   simp -implicitDefEqProofs (maxSteps:=1000000) (disch:=first|rfl|omega|assumption) only [go_sem,g1,g6,g13,g14,g15,g16,g17,g18,g104,g105,g106,ltT,ltF,leT,hk',hs1,hs2,hs3,hs4,t1,t2,t3,t4,a1,a2,a3,a4,a5,hbe,hcl,b1,b2,b3,b4,b5,hwe,hcw,l3,c0,law_awake9]
   done
  have hWv:=fun G:Heap=>r2_Warm (hvr.app G) (by omega)
  cases c1:w.okB
  ·rw [c1] at hWv
   simp only [zAb,zA4,zA7,zAa,zA3,↓reduceIte,Option.some.injEq,Nat.reduceEqDiff,reduceCtorEq,Tryz.f3]
   rw [zA2]
   simp -implicitDefEqProofs (maxSteps:=1000000) (disch:=first|rfl|omega|assumption) only [go_sem,g1,g6,g13,g14,g15,g16,g17,g18,g104,g105,g106,ltT,ltF,leT,hk',hs1,hs2,hs3,hs4,t1,t2,t3,t4,a1,a2,a3,a4,a5,hbe,hcl,b1,b2,b3,b4,b5,hwe,hcw,l3,c0,hWv,law_awake9]
   done
  rw [c1] at hWv
  have hw:=okW_ok c1
  have hln:=hw.len
  have hco:=hw.co
  have hmany:=hw.many
  have hD1:=fun G=>hD a w.n1 w.n2 G (by omega) (by omega)
  have d1:=draw_bd (us:=us) (a:=a+1) (show w.n1≤w.n2 by omega)
  generalize drawZ us (a+1) w.n1 w.n2=n at *
  have hD2:=fun G=>hD (a+1) w.c1 w.c2 G (by omega) (by omega)
  have d2:=draw_bd (us:=us) (a:=a+1+1) (show w.c1≤w.c2 by omega)
  generalize drawZ us (a+1+1) w.c1 w.c2=c at *
  have q18:=lw_l18 hvb hvt t38 hw hvr fl hu hul b (n:=n) (c:=c) (by omega) (by omega) al er off hea mi j s.bs.length (a:=a+1+1) (by omega)
  obtain ⟨hxo,hxp⟩:=rdX_ok hw us (a+1+1) (n:=n) (c:=c) d1 d2
  have hrx0:rdX w us (a+1+1) n c 0=[]:=rfl
  have trx:∀ N,ltL N ((rdX w us (a+1+1) n c w.rs.length).map rdA)=true:=fun N=>rdLt _ _
  have lrx:((rdX w us (a+1+1) n c w.rs.length).map rdA).length=w.rs.length:=by rw [List.length_map,rdX_len]
  generalize rdX w us (a+1+1) n c w.rs.length=xs at *
  have hRm:=fun G:Heap=>wa_Room (H:=G) hxo (slR G false xs) hof (List.ne_nil_of_mem hxp)
  simp only [Wm.av] at hRm
  have hgr:=fun (t:Int) (h1 : -((roomN w.mark off (goodL ⟨w.mark,w.n1,w.n2,w.c1,w.c2,xs⟩):Nat):Int)≤t) (h2:t≤(roomN w.mark off (goodL ⟨w.mark,w.n1,w.n2,w.c1,w.c2,xs⟩):Nat))=>room_grows (m:=w.mark) (off:=off) (by have:=hw.mark;omega) hof.1 hxp (by simp only;omega) h1 h2
  simp only at hgr
  generalize roomN w.mark off (goodL ⟨w.mark,w.n1,w.n2,w.c1,w.c2,xs⟩)=room at *
  obtain ⟨a9,ha9⟩:∃ x,a+1+1+(w.rs.length:Int)=x:=⟨_,rfl⟩
  rw [ha9] at q18
  have q28:=lw_l28 ho hvb hvt t38 hvr xs fl hu hul b n c al er off hea mi room j s.bs.length (a:=a9) (by omega)
  have hht0:htX s us a9 0=[]:=rfl
  obtain ⟨hhb,hht⟩:=htX_in s ho.wf.ts us a9
  have hhl:=htX_len s us a9 s.ts.length
  generalize htX s us a9 s.ts.length=hs at *
  have ths:∀ N,ltL N (hs.map I)=true:=fun N=>ltL_map (fun _=>rfl) _
  have lhs:(hs.map I).length=s.ts.length:=by rw [List.length_map,hhl]
  obtain ⟨o1,o2,o3,o4,o5,o6,o7,o8,o9⟩:=id hbo
  obtain ⟨a8,ha8⟩:∃ x,a9+(s.ts.length:Int)=x:=⟨_,rfl⟩
  rw [ha8] at q28
  have hD3:=fun G=>hD a8 b.x0 b.x1 G (by omega) (by omega)
  have d3:=draw_bd (us:=us) (a:=a8+1) o2
  generalize drawZ us (a8+1) b.x0 b.x1=x0 at *
  have hD4:=fun G=>hD (a8+1) b.s0 b.s1 G (by omega) (by omega)
  have d4:=draw_bd (us:=us) (a:=a8+1+1) o5
  generalize drawZ us (a8+1+1) b.s0 b.s1=k at *
  obtain ⟨Lst,hLs⟩:∃ Lst:Nat,s.last=Lst:=⟨s.last.toNat,by have:=ho.last;omega⟩
  have hla:=ho.last
  have q34:=lw_l34 ho hl5 hvb hvt t37 hw hvr hxo fl us hk2 hbe hbo hxp (by omega) (by omega) hhl hhb hht d4 d3 al er hof hea mi room s.bs.length (a8+1+1) hLs (fun m hm e1 e2 e3=>by
   have hst:=all_settl (by omega) (hall e1) hk2 (m:=m) e2 (by omega)
   rw [hbe] at hst
   have:=inZ_settl hbo hht d4 d3 hst
   exact hgr _ (by omega) (by omega))
  have elast:IntKind.i64.wrap (s.last+1)=((Lst+1:Nat):Int):=by rw [w64 (by omega) (by omega)];omega
  have elast2:(Lst:Int)+1=((Lst+1:Nat):Int):=by omega
  have hLat:=fun G:Heap=>se_Latest ho hl5 (hvb.app G) (hvt.app G) hk2 (heat:=hea) (n:=mi) (by omega) hmi
  rw [hbe] at hLat
  have key:=fun (G:Heap)=>ih (j+1) (by omega) G (a8+1+1) (by omega)
  simp only [zAb,zA4,zA7,zAa,zA3,↓reduceIte,Option.some.injEq,Nat.reduceEqDiff,reduceCtorEq,Tryz.f3]
  rw [zA2]
  simp -implicitDefEqProofs (maxSteps:=1000000) (disch:=first|rfl|omega|assumption) only [go_sem,g1,g6,g13,g14,g15,g16,g17,g18,g104,g105,g106,ltT,ltF,leT,hk',hs1,hs2,hs3,hs4,t1,t2,t3,t4,a1,a2,a3,a4,a5,hbe,hcl,b1,b2,b3,b4,b5,hwe,hcw,l3,c0,hWv]
  rw [zAg];rotate_left;kernel_rfl
  simp -implicitDefEqProofs (maxSteps:=1000000) (disch:=first|rfl|omega|assumption) only [go_sem,g1,g6,g13,g14,g15,g16,g17,g18,g104,g105,g106,ltT,ltF,leT,hk',hs1,hs2,hs3,hs4,hD1,hD2,l3]
  have q18':=fun K R hK=>q18 K R hK w.rs.length 0 (by omega) []
  simp only [Int.natCast_zero,Int.add_zero,hrx0,List.map_nil] at q18'
  refine q18' _ _ (fun E g1 g6 g13 g14 g15 g16 g17 g18 g19 g20 g22 g23 g104 g105 g106=>?_) _ (by rfl) (by rfl) (by rfl) (by rfl) (by rfl) (by rfl) (by rfl) (by rfl) (by rfl) (by rfl) (by rfl) (by rfl) (by rfl) (by rfl) (by rfl) (by rfl) (by rfl) (by rfl) (by rfl)
  simp -implicitDefEqProofs (maxSteps:=1000000) (disch:=first|rfl|omega|assumption) only [go_sem,g1,g6,g13,g14,g15,g16,g17,g18,g19,g20,g22,g23,g104,g105,g106,ltT,ltF,leT,hk',hs1,hs2,hs3,hs4,t17,t27,t37,t57,t4,trx,lrx,hRm,l2]
  have q28':=fun K R hK=>q28 K R hK s.ts.length 0 (by omega) []
  simp only [Int.natCast_zero,Int.add_zero,hht0,List.map_nil] at q28'
  refine q28' _ _ (fun E g1 g6 g13 g14 g15 g16 g17 g18 g19 g20 g22 g23 g27 g29 g104 g105 g106=>?_) _ (by rfl) (by rfl) (by rfl) (by rfl) (by rfl) (by rfl) (by rfl) (by rfl) (by rfl) (by rfl) (by rfl) (by rfl) (by rfl) (by rfl) (by rfl) (by rfl) (by rfl) (by rfl) (by rfl) (by rfl)
  simp -implicitDefEqProofs (maxSteps:=1000000) (disch:=first|rfl|omega|assumption) only [go_sem,g1,g6,g13,g14,g15,g16,g17,g18,g19,g20,g22,g23,g27,g29,g104,g105,g106,ltT,ltF,leT,hk',hs1,hs2,hs3,hs4]
  rw [zAg];rotate_left;kernel_rfl
  simp -implicitDefEqProofs (maxSteps:=1000000) (disch:=first|rfl|omega|assumption) only [go_sem,g1,g6,g13,g14,g15,g16,g17,g18,g19,g20,g22,g23,g27,g29,g104,g105,g106,ltT,ltF,leT,hk',hs1,hs2,hs3,hs4,hD3,hD4,t17,t27,t37,t57,t4,trx,ths,lhs,elast]
  refine q34 _ _ (fun E g1 g6 g13 g14 g15 g16 g17 g18 g19 g22 g23 g27 g29 g32 g33 g104 g105 g106=>?_) (Lst+1) 0 (by omega) [] _ (by rfl) (by rfl) (by rfl) (by rfl) (by rfl) (by rfl) (by rfl) (by rfl) (by rfl) (by rfl) (by rfl) (by rfl) (by rfl) (by rfl) (by rfl) (by rfl) (by rfl) (by rfl) (by rfl) (by rfl)
  simp -implicitDefEqProofs (maxSteps:=1000000) (disch:=first|rfl|omega|assumption) only [go_sem,g1,g6,g13,g14,g15,g16,g17,g18,g19,g22,g23,g27,g29,g32,g33,g104,g105,g106,ltT,ltF,leT,hk',hs1,hs2,hs3,hs4,t17,t27,t37,t57,t4,trx,ths,lrx,lhs]
  cases hfd:findN (fun i=>settl (s.touch (j:Int) ((mi:Int)-i) hea) j b mi) 0 (mi+1) with
  | none =>
   rw [hfd] at hLat
   simp -implicitDefEqProofs (maxSteps:=1000000) (disch:=first|rfl|omega|assumption) only [go_sem,g1,g6,g13,g14,g15,g16,g17,g18,g19,g22,g23,g27,g29,g32,g33,g104,g105,g106,ltT,ltF,leT,hk',hLat]
   exact key _ _ (by exact g1) (by exact g6) (by exact g13) (by exact g14) (by exact g15) (by exact g16) (by exact g17) (by exact g18) (by exact g104) (by exact g105) (by rfl)
  | some idx =>
   obtain ⟨hix,hst⟩:=find_lt hfd
   obtain ⟨y,hy⟩:∃ y,(mi:Int)-idx=y:=⟨_,rfl⟩
   simp only [hfd,hy] at hLat
   simp only [hy] at hst
   have slT:∀ (H:Heap) (b:Bool) (ts:List Tch),SlOk H 4 (.sl b (ts.map Tch.av)) (ts.map Tch.av):=fun H b ts=>⟨rfl,fun x hx=>by
    obtain ⟨i,_,rfl⟩:=List.mem_map.1 hx;rfl⟩
   have hTo:=fun G:Heap=>rf_Touched (hvb.app G) (hvt.app G) (by omega) j y hea
   obtain ⟨hb1,hb2⟩:=ht_touch s hhl hhb hht (j:Int) y (x:=hea) (by omega)
   have htl:=touch_len s j y hea
   have hln2:(hs++[hea]).length=(s.touch j y hea).ts.length:=by rw [htl,← hhl];simp
   have lh2:((hs++[hea]).map I).length=s.ts.length+1:=by rw [List.length_map,List.length_append,hhl];rfl
   have hIn:=fun (o0 o1 o2 o3 o4 o5 o6 o7:AO)=>rf_In (s:=s.touch j y hea) (vh:=.gsl (H.length+8) (s.ts.length+1)) (hvb.app [o0,o1,o2,o3,o4,o5,o6,o7,.grow 1 ((hs++[hea]).map I)]) (slT (H++[o0,o1,o2,o3,o4,o5,o6,o7,.grow 1 ((hs++[hea]).map I)]) false (s.touch j y hea).ts) (by omega) ⟨⟨by rw [zAe];rfl,lh2.symm⟩,fun x hx=>by obtain ⟨i,_,rfl⟩:=List.mem_map.1 hx;rfl⟩ hln2 hb1 (j:Int) (k:=k) (x0:=x0) ⟨by omega,by omega⟩ ⟨by omega,by omega⟩ mi (by omega)
   have hin:=inZ_settl hbo hb2 d4 d3 hst
   have htb:=inZ_bd (s.touch j y hea) (by omega) hb1 (blk:=(j:Int)) (k:=k) (x0:=x0) (by omega) (by omega) mi
   have hnr:(s.touch j y hea).near=s.near:=rfl
   have hla2:(s.touch j y hea).last=s.last:=rfl
   simp only [hnr,hla2] at hIn hin
   generalize inZ (s.touch j y hea) (hs++[hea]) j k x0 mi=t at *
   have hSh:=fun G:Heap=>rf_Show (mk:=w.mark) (n1:=w.n1) (n2:=w.n2) (c1:=w.c1) (c2:=w.c2) (by have:=hw.mark;omega) (.sl false (xs.map rdA)) rfl (n:=n) (c:=c) (t:=t) (by omega) (by omega) (by omega) G
   have hgb : -100000000000≤grW w.mark c t∧grW w.mark c t≤100000000000:=by
    have hm:=hw.mark
    rw [grW_div]
    have q1:=mul_bd (a:=w.mark) (b:=c) (by omega) (by omega)
    have q2 : -43000≤t∧t≤43000:=by omega
    have q3:w.mark*c*t≤1000000*43000:=by
     rcases Int.le_total 0 t with h | h
     ·have:=Int.mul_le_mul q1.2 q2.2 h (by omega);omega
     ·have:=Int.mul_nonneg q1.1 (show 0 ≤ -t by omega)
      rw [Int.mul_neg] at this;omega
    have q4 : -(1000000*43000)≤w.mark*c*t:=by
     rcases Int.le_total 0 t with h | h
     ·have:=Int.mul_nonneg q1.1 h;omega
     ·have:=Int.mul_le_mul q1.2 (show -t≤43000 by omega) (by omega) (show (0:Int)≤1000000 by omega)
      rw [Int.mul_neg] at this;omega
    generalize w.mark*c*t=z at *
    omega
   have hgo:=hgr t
   have eg:IntKind.i64.wrap (n+grW w.mark c t-n)=grW w.mark c t:=by rw [w64 (by omega) (by omega)];omega
   have hadd1:∀ (o0 o1 o2 o3 o4 o5 o6 o7:AO),zBo (H++[o0,o1,o2,o3,o4,o5,o6,o7]) 1 false (.sl true []) (hs.map I)=some (.gsl (H.length+8) s.ts.length,H++[o0,o1,o2,o3,o4,o5,o6,o7,.grow 1 (hs.map I)]):=fun o0 o1 o2 o3 o4 o5 o6 o7=>by
    rw [add_full rfl rfl (elemsOk_map (fun _=>rfl) _) (ltL_map (fun _=>rfl) _) (by simp;omega) rfl,← hhl]
    simp
   have hadd2:∀ (o0 o1 o2 o3 o4 o5 o6 o7:AO),zBo (H++[o0,o1,o2,o3,o4,o5,o6,o7,.grow 1 (hs.map I)]) 1 false (.gsl (H.length+8) s.ts.length) [I hea]=some (.gsl (H.length+8) (s.ts.length+1),H++[o0,o1,o2,o3,o4,o5,o6,o7,.grow 1 ((hs++[hea]).map I)]):=fun o0 o1 o2 o3 o4 o5 o6 o7=>by
    rw [add_gsl (xs:=hs.map I) (by rw [zAe];rfl) lhs (by rfl) (by rfl) (by simp;omega),zBs]
    simp
   have th2:∀ N,ltL N ((hs++[hea]).map I)=true:=fun N=>ltL_map (fun _=>rfl) _
   simp -implicitDefEqProofs (maxSteps:=1000000) (disch:=first|rfl|omega|assumption) only [go_sem,g1,g6,g13,g14,g15,g16,g17,g18,g19,g22,g23,g27,g29,g32,g33,g104,g105,g106,ltT,ltF,leT,hk',hs1,hs2,hs3,hs4,hLat,hTo]
   rw [zAg];rotate_left;kernel_rfl
   simp -implicitDefEqProofs (maxSteps:=1000000) (disch:=first|rfl|omega|assumption) only [go_sem,g1,g6,g13,g14,g15,g16,g17,g18,g19,g22,g23,g27,g29,g32,g33,g104,g105,g106,ltT,ltF,leT,hk',hs1,hs2,hs3,hs4,hTo,hadd1,hadd2,hIn,th2,lh2]
   rw [zAg];rotate_left;kernel_rfl
   have hne:=ho.near
   have en:IntKind.i64.wrap (0-s.near) = -s.near:=by rw [w64 (by omega) (by omega)];omega
   have eo:IntKind.i64.wrap (0-off) = -off:=by rw [w64 (by omega) (by omega)];omega
   have y1:¬ t < -s.near:=by omega
   have y2:¬ s.near<t:=by omega
   by_cases cr:s.near≤(room:Int)
   ·have hgo':=hgo (by omega) (by omega)
    have y3:¬ off<grW w.mark c t:=by omega
    have y4:¬ grW w.mark c t < -off:=by omega
    simp -implicitDefEqProofs (maxSteps:=1000000) (disch:=first|rfl|omega|assumption) only [go_sem,g1,g6,g13,g14,g15,g16,g17,g18,g19,g22,g23,g27,g29,g32,g33,g104,g105,g106,ltT,ltF,leT,hk',hs1,hs2,hs3,hs4,hSh,eg,en,eo,y1,y2,cr,y3,y4]
    exact key _ _ (by exact g1) (by exact g6) (by exact g13) (by exact g14) (by exact g15) (by exact g16) (by exact g17) (by exact g18) (by exact g104) (by exact g105) (by rfl)
   ·skip
    simp -implicitDefEqProofs (maxSteps:=1000000) (disch:=first|rfl|omega|assumption) only [go_sem,g1,g6,g13,g14,g15,g16,g17,g18,g19,g22,g23,g27,g29,g32,g33,g104,g105,g106,ltT,ltF,leT,hk',hs1,hs2,hs3,hs4,hSh,eg,en,eo,y1,y2,cr]
    exact key _ _ (by exact g1) (by exact g6) (by exact g13) (by exact g14) (by exact g15) (by exact g16) (by exact g17) (by exact g18) (by exact g104) (by exact g105) (by rfl)
end Go.Ab
