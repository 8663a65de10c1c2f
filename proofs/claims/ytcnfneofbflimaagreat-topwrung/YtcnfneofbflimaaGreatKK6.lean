/- Length. -/
import Derived.Test.YtcnfneofbflimaaGreatKK5
namespace Go.Ab
open Go.Proofs
set_option linter.unusedSimpArgs false
set_option linter.unusedVariables false
set_option maxRecDepth 100000
set_option maxHeartbeats 2000000
variable {H:Heap}
def Wg.lenAt (w:Wg) (xs:List Pc) (i:Nat):List (Int×Int) :=
 ((w.b (pcA xs i).b.toNat).lo,(w.b (pcA xs i).b.toNat).hi)::(if i=0 then [] else [((w.fa (pcA xs (i-1))).lo,(w.fa (pcA xs (i-1))).hi),((w.fb (pcA xs i)).lo,(w.fb (pcA xs i)).hi)])
def Wg.lenF (w:Wg) (xs:List Pc):Nat→Nat→List (Int×Int)
 | _,0=>[]
 | j,q+1=>w.lenAt xs j++w.lenF xs (j+1) q
theorem len_loop {w:Wg} {vb va:AV} (h:WgAt H w vb va) (ho:w.Ok) (f:Bool) (xs:List Pc) (hx:xs.length≤300) (hp:w.poks xs) (r:List (Int×Int)) (v1:AV) :
  ∀ (q j:Nat),j+q=xs.length→∀ (G:Heap),∀ (acc:List (Int×Int)),acc.length≤3*j→spB acc 200→acc++w.lenF xs j q=r→∀ E:Env,E.get 1=.sl f (xs.map Pc.av)→E.get 2=.ptr H.length 0→E.get 4=.ptr (H.length+1) 0→E.get 5=.ptr (H.length+2) 0→E.get 6=.ptr (H.length+6) 0→E.get 7=.func (.func 56) [] []→E.get 8=.func (.func 57) [.agg (fcsN w.b)] []→E.get 9=.gsl (H.length+7) acc.length→E.get 22=.sl f (xs.map Pc.av)→E.get 23=I xs.length→E.get 24=I j →
  Option.map (zAd H.length) (zAe cfg0 zA2 ⟨16,none,false,H.length⟩ (zA5 Tryz.f16 6) ⟨E,[.fn (.func 55) [] [.ptr (H.length+2) 0]],H++(.box (.agg [vb,va])::.box (.agg [I 0,I 0])::.box (I 0)::.box (.sl f (xs.map Pc.av))::.box (.agg [vb,va])::.map 66 (apM w.ps)::.box (.agg (shC vb va (fcsN w.b) (vwA false) (H.length+5)))::.grow 2 (acc.map spA)::G),none⟩)=some ⟨.ret (.tup [.agg [I (sum1 r),I (sum2 r)],I 0]),H,none⟩:=by
 intro q
 obtain ⟨a1,a2,a3,a4,a5⟩:=(slP (H:=H) (b:=f) xs).fF (d:=pc0)
 obtain ⟨b1,b2,b3,b4,b5⟩:=h.bs.fF (d:=bk0)
 have s1:=h.bs.scal
 have s2:=h.ps.scal
 have t1:=h.bs.ltn 8
 have t2:=h.ps.ltn 8
 have hN:=fun (G:Heap)=>wd_Lengthn (H.length+2) G
 have hsl:ltL (H.length+8) (shC vb va (fcsN w.b) (vwA false) (H.length+5))=true:=by
  have:(AV.map (H.length+5)).lt (H.length+8)=true:=by simp [AV.lt]
  simp only [shC,ltL,t1,t2,fcsN,Bk.fcs,List.cons_append,List.nil_append,this,vwA]
  rfl
 have hfl:ltL (H.length+8) (fcsN w.b)=true:=by
  simp only [ltL,fcsN,Bk.fcs,List.cons_append,List.nil_append]
  rfl
 have hml:zB7 (H.length+8) (apM w.ps)=true:=by
  have key:∀ (l:List Ap) (es:List (AV×AV)),zB7 (H.length+8) es=true→zB7 (H.length+8) (l.foldl apS es)=true:=by
   intro l
   induction l with
   | nil=>intro es h;exact h
   | cons a r ih=>intro es h;rw [List.foldl_cons];exact ih _ (put_lt rfl rfl _ (put_lt rfl rfl _ h))
  exact key _ [] rfl
 have t3:=fun l=>spLt l 0
 have e30:=zBv w.b
 induction q with
 | zero =>
  intro j hj G acc hl hbd hr E g1 g2 g4 g5 g6 g7 g8 g9 g22 g23 g24
  have hk':¬ (j:Int)<((xs.length:Nat):Int):=by omega
  simp only [Wg.lenF,List.append_nil] at hr
  subst hr
  simp only [zA6,zA4,zA5,zA7,zA3,↓reduceIte,Option.some.injEq,Nat.reduceEqDiff,reduceCtorEq,Tryz.f16]
  rw [zA0]
  have hS:=fun (o0 o1 o2 o3 o4 o5 o6:AO)=>wr_sum (H:=H++[o0,o1,o2,o3,o4,o5,o6,.grow 2 (acc.map spA)]) (v:=.gsl (H.length+7) acc.length) (l:=acc) ⟨⟨by rw [zAi 7];rfl,by simp⟩,fun x hx=>by obtain ⟨i,_,rfl⟩:=List.mem_map.1 hx;rfl⟩ (by omega) (fun p hp=>by have:=hbd p hp;omega)
  simp -implicitDefEqProofs (maxSteps:=1000000) (disch:=first|rfl|omega|assumption) only [go_sem,g1,g2,g4,g5,g6,g7,g8,g9,g22,g23,g24,ltT,ltF,leT,hk',s1,s2,t1,t2,hsl,hfl,hml,t3,hS,hN]
  done
 | succ q ih =>
  intro j hj G acc hl hbd hr E g1 g2 g4 g5 g6 g7 g8 g9 g22 g23 g24
  have hk':(j:Int)<((xs.length:Nat):Int):=by omega
  have hk2:j<xs.length:=by omega
  have hj:=hp j hk2
  obtain ⟨p1,p2,p3,p4⟩:=id hj
  simp only [Wg.n] at p2
  have hrl:w.lenF xs j (q+1)=w.lenAt xs j++w.lenF xs (j+1) q:=rfl
  have hla:w.lenAt xs j=((w.b (pcA xs j).b.toNat).lo,(w.b (pcA xs j).b.toNat).hi)::(if j=0 then [] else [((w.fa (pcA xs (j-1))).lo,(w.fa (pcA xs (j-1))).hi),((w.fb (pcA xs j)).lo,(w.fb (pcA xs j)).hi)]):=rfl
  rw [hrl,hla] at hr
  have hbj:=ho.sp (pcA xs j).b.toNat (by simp only [Wg.n];omega)
  have hfbj:=(ho.fb hj).sp
  have hFb:=fun G=>wr_fb ho.n.2 hj G
  obtain ⟨x,hxe⟩:∃ x,pcA xs j=x:=⟨_,rfl⟩
  have hxe':xs.getD j pc0=x:=hxe
  rw [hxe] at hr hbj hfbj hFb p1 p2
  obtain ⟨bk,hbk⟩:∃ y,w.b x.b.toNat=y:=⟨_,rfl⟩
  have hbk':w.bs.getD x.b.toNat bk0=bk:=hbk
  rw [hbk] at hr hbj
  obtain ⟨lo,hi,⟨f1,f2,f3⟩,⟨f4,f5,f6⟩⟩:=bk
  have hrb:∀ (off:Nat) (ty:Ty),zAf (Bk.av ⟨lo,hi,⟨f1,f2,f3⟩,⟨f4,f5,f6⟩⟩).cells off ty=zAf [I lo,I hi,I f1,I f2,I f3,I f4,I f5,I f6] off ty:=fun _ _=>rfl
  have la:(acc.map spA).length=acc.length:=List.length_map _
  have hadd:∀ (o0 o1 o2 o3 o4 o5 o6 o8:AO) (a b:Int),addElem (H++[o0,o1,o2,o3,o4,o5,o6,.grow 2 (acc.map spA),o8]) 2 true (.gsl (H.length+7) acc.length) [.agg [I a,I b]]=some (.gsl (H.length+7) (acc.length+1),H++[o0,o1,o2,o3,o4,o5,o6,.grow 2 ((acc++[(a,b)]).map spA),o8]):=by
   intro o0 o1 o2 o3 o4 o5 o6 o8 a b
   rw [add_gsl (xs:=acc.map spA) (by rw [zAi];rfl) la rfl rfl (by simp;omega),set_at',List.map_append]
   rfl
  have la2:∀ a b:Int,((acc++[(a,b)]).map spA).length=acc.length+1:=by intro a b;simp
  have hadd2:∀ (o0 o1 o2 o3 o4 o5 o6 o8:AO) (a b c d e g:Int),addElem (H++[o0,o1,o2,o3,o4,o5,o6,.grow 2 ((acc++[(a,b)]).map spA),o8]) 2 true (.gsl (H.length+7) (acc.length+1)) [.agg [I c,I d],.agg [I e,I g]]=some (.gsl (H.length+7) (acc.length+3),H++[o0,o1,o2,o3,o4,o5,o6,.grow 2 (((acc++[(a,b)])++[(c,d),(e,g)]).map spA),o8]):=by
   intro o0 o1 o2 o3 o4 o5 o6 o8 a b c d e g
   rw [add_gsl (xs:=(acc++[(a,b)]).map spA) (by rw [zAi];rfl) (la2 a b) rfl rfl (by simp;omega),set_at']
   simp [spA]
  obtain ⟨xb,xu⟩:=x
  have hrx:∀ ty:Ty,zAf (Pc.av ⟨xb,xu⟩).cells 0 ty=zAf [I xb,I xu] 0 ty:=fun _=>rfl
  simp only [Pc.av,Fc.av] at hFb hbk' p1 p2
  simp only at hbj
  by_cases h0:j=0
  ·subst h0
   simp only [if_true,List.cons_append,List.nil_append] at hr
   have hng:¬ (0:Int)<((0:Nat):Int):=by simp
   simp only [zA6,zA4,zA5,zA7,zA3,↓reduceIte,Option.some.injEq,Nat.reduceEqDiff,reduceCtorEq,Tryz.f16]
   rw [zA0]
   simp -implicitDefEqProofs (maxSteps:=1000000) (disch:=first|rfl|omega|assumption) only [go_sem,g1,g2,g4,g5,g6,g7,g8,g9,g22,g23,g24,ltT,ltF,leT,hk',s1,s2,t1,t2,hsl,hfl,hml,t3,a1,a2,a3,a4,a5,hxe',hrx,b1,b2,b3,b4,b5,hbk',hrb,hadd,hng]
   have key:=ih 1 (by omega) [.box (.agg [I xb,I xu])] (acc++[(lo,hi)]) (by simp;omega) (by
    intro p hm
    rcases List.mem_append.1 hm with hm | hm
    ·exact hbd p hm
    ·rw [List.mem_singleton] at hm;subst hm;simp only;omega) (by rw [List.append_assoc];exact hr)
   simp only [List.length_append,List.length_cons,List.length_nil,Nat.zero_add] at key
   exact key _ (by rfl) (by rfl) (by rfl) (by rfl) (by rfl) (by rfl) (by rfl) (by rfl) (by rfl) (by rfl) (by rfl)
  ·have hj1:=hp (j-1) (by omega)
   have hfaj:=(ho.fa hj1).sp
   have hFa:=fun G=>wr_fa ho.n.2 hj1 G
   obtain ⟨y,hye⟩:∃ x,pcA xs (j-1)=x:=⟨_,rfl⟩
   have hye':xs.getD (j-1) pc0=y:=hye
   have hcast:IntKind.i64.wrap ((j:Int)-1)=((j-1:Nat):Int):=by rw [w64 (by omega) (by omega)];omega
   have hj1l:j-1<xs.length:=by omega
   have hgt:(0:Int)<(j:Int):=by omega
   rw [hye] at hr hfaj hFa
   simp only [if_neg h0] at hr
   generalize w.fa y=fa at *
   generalize w.fb ⟨xb,xu⟩=fb at *
   obtain ⟨c1,c2,c3⟩:=fa
   obtain ⟨d1,d2,d3⟩:=fb
   obtain ⟨yb,yu⟩:=y
   have hry:∀ ty:Ty,zAf (Pc.av ⟨yb,yu⟩).cells 0 ty=zAf [I yb,I yu] 0 ty:=fun _=>rfl
   simp only [Pc.av,Fc.av] at hFa hFb
   simp only [zA6,zA4,zA5,zA7,zA3,↓reduceIte,Option.some.injEq,Nat.reduceEqDiff,reduceCtorEq,Tryz.f16]
   rw [zA0]
   simp -implicitDefEqProofs (maxSteps:=1000000) (disch:=first|rfl|omega|assumption) only [go_sem,g1,g2,g4,g5,g6,g7,g8,g9,g22,g23,g24,ltT,ltF,leT,hk',s1,s2,t1,t2,hsl,hfl,hml,t3,a1,a2,a3,a4,a5,hxe',hrx,b1,b2,b3,b4,b5,hbk',hrb,hadd,hgt]
   rw [zAa];rotate_left;kernel_rfl
   simp -implicitDefEqProofs (maxSteps:=1000000) (disch:=first|rfl|omega|assumption) only [go_sem,g1,g2,g4,g5,g6,g7,g8,g9,g22,g23,g24,ltT,ltF,leT,hk',s1,s2,a1,a2,a3,a4,a5,hye',hry,hcast,hFa,hFb,hadd2]
   have key:=ih (j+1) (by omega) [.box (.agg [I xb,I xu])] (acc++[(lo,hi),(c1,c2),(d1,d2)]) (by simp;omega) (by
    intro p hm
    simp only at hfaj hfbj
    rcases List.mem_append.1 hm with hm | hm
    ·exact hbd p hm
    ·simp only [List.mem_cons,List.not_mem_nil,or_false] at hm
     rcases hm with rfl | rfl | rfl<;>simp only<;>omega) (by simpa using hr)
   simp only [List.length_append,List.length_cons,List.length_nil,Nat.zero_add,Nat.add_assoc,Nat.reduceAdd] at key
   exact key _ (by rfl) (by rfl) (by rfl) (by rfl) (by rfl) (by rfl) (by rfl) (by rfl) (by rfl) (by rfl) (by rfl)
def Wg.length (w:Wg) (xs:List Pc):(Int×Int)×Int:=if w.valid then (if w.stk xs then ((sum1 (w.lenF xs 0 xs.length),sum2 (w.lenF xs 0 xs.length)),0) else ((0,0),2)) else ((0,0),1)
theorem wr_Length {w:Wg} {vb va:AV} (h:WgAt H w vb va) (hl:w.bs.length≤1000∧w.ps.length≤1000) (f:Bool) (xs:List Pc) (hx:xs.length≤300) :
  zA9 cfg0 zA2 false 16 [.agg [vb,va],.sl f (xs.map Pc.av)] H none=some ⟨.ret (.tup [.agg [I (w.length xs).1.1,I (w.length xs).1.2],I (w.length xs).2]),H,none⟩:=by
 have s1:=h.bs.scal
 have s2:=h.ps.scal
 have hI:=fun G=>wr_isStack (.sl f (xs.map Pc.av)) rfl (.inr trivial) G
 have hD:=fun (e:Int) (a b:AO) (G:Heap)=>wd_Lengths (H.length+2) e 0 (H++(a::b::.box (I 0)::G)) (by rw [zAi 2];rfl)
 have hO:=wr_open (H:=H++[.box (.agg [vb,va]),.box (.agg [I 0,I 0]),.box (I 0),.box (.sl f (xs.map Pc.av))]) (h.app _) hl (.func 79) [.ptr (H.length+3) 0] (by simp [AV.lt,ltL,fnLt]) (w.stk xs) (fun hv=>by
  have ho:=w.valid_iff.1 hv
  have hs:=wr_stack1 (k:=H.length+3) (opG_at (h.app [.box (.agg [vb,va]),.box (.agg [I 0,I 0]),.box (I 0),.box (.sl f (xs.map Pc.av))])) ho.n.2 f xs (by omega) (by rw [List.append_assoc,zAi 3];rfl)
  intro b0
  rw [callVL_func]
  exact hs)
 simp only [List.length_append,List.length_cons,List.length_nil,Nat.zero_add,Nat.reduceAdd,Nat.add_assoc,opG,List.append_assoc,List.cons_append,List.nil_append] at hO
 cases hv:w.valid
 ·simp only [hv,Bool.false_eq_true,if_false] at hO
  simp only [Wg.length,hv,Bool.false_eq_true,if_false]
  refine (zA1 fn16 rfl (by simp [Tryz.f16])).trans ?_
  simp -implicitDefEqProofs (maxSteps:=1000000) (disch:=first|rfl|omega|assumption) only [go_sem,ltT,ltF,leT,s1,s2]
  rw [zAa];rotate_left;kernel_rfl
  simp -implicitDefEqProofs (maxSteps:=1000000) (disch:=first|rfl|omega|assumption) only [go_sem,ltT,ltF,leT,s1,s2,hI,hO,hD]
  done
 have ho:=w.valid_iff.1 hv
 simp only [hv,if_true] at hO
 simp only [Wg.length,hv,if_true]
 cases hk:w.stk xs
 ·simp only [hk,Bool.false_eq_true,if_false] at hO ⊢
  refine (zA1 fn16 rfl (by simp [Tryz.f16])).trans ?_
  simp -implicitDefEqProofs (maxSteps:=1000000) (disch:=first|rfl|omega|assumption) only [go_sem,ltT,ltF,leT,s1,s2]
  rw [zAa];rotate_left;kernel_rfl
  simp -implicitDefEqProofs (maxSteps:=1000000) (disch:=first|rfl|omega|assumption) only [go_sem,ltT,ltF,leT,s1,s2,hI,hO,hD]
  done
 simp only [hk,if_true] at hO ⊢
 obtain ⟨hp,h0⟩:=stk_pok hk
 have e30:=zBv w.b
 have hL:=len_loop h ho f xs hx hp (w.lenF xs 0 xs.length) (.bool true) xs.length 0 (by omega) [] [] (by simp) (fun p hp=>by cases hp) (by simp)
 refine (zA1 fn16 rfl (by simp [Tryz.f16])).trans ?_
 simp -implicitDefEqProofs (maxSteps:=1000000) (disch:=first|rfl|omega|assumption) only [go_sem,ltT,ltF,leT,s1,s2]
 rw [zAa];rotate_left;kernel_rfl
 simp -implicitDefEqProofs (maxSteps:=1000000) (disch:=first|rfl|omega|assumption) only [go_sem,ltT,ltF,leT,s1,s2,hI,hO]
 rw [zAa];rotate_left;kernel_rfl
 simp -implicitDefEqProofs (maxSteps:=1000000) (disch:=first|rfl|omega|assumption) only [go_sem,ltT,ltF,leT,s1,s2]
 exact hL _ (by rfl) (by rfl) (by rfl) (by rfl) (by rfl) (by rfl) (by rfl) (by rfl) (by rfl) (by rfl) (by rfl)
def Wg.ok1 (w:Wg) (b:Bool) (p:Pl) (x:Pc):Bool:=!(p.some&&(w.jt b p.top x != 0))
def Wg.plU (w:Wg) (b:Bool) (p:Pl) (j:Nat):Nat→Nat→List Pc
 | _,0=>[]
 | u,q+1=>if w.ok1 b p ⟨j,u⟩ then ⟨j,u⟩::w.plU b p j (u+1) q else w.plU b p j (u+1) q
def Wg.plB (w:Wg) (b:Bool) (p:Pl):Nat→Nat→List Pc
 | _,0=>[]
 | j,q+1=>if p.left.testBit j then w.plU b p j 0 2++w.plB b p (j+1) q else w.plB b p (j+1) q
def Wg.plL (w:Wg) (b:Bool) (p:Pl):List Pc:=w.plB b p 0 w.bs.length
def Pl.next (p:Pl) (x:Pc):Pl:=⟨p.left-2^x.b.toNat,x,true⟩
theorem mem_plU {w:Wg} {b:Bool} {p:Pl} {j:Nat} {x:Pc}:∀ (q u:Nat),x∈w.plU b p j u q→x.b=(j:Int)∧∃ k:Nat,x.u=(k:Int)∧u≤k∧k<u+q
 | 0,u,h=>by simp [Wg.plU] at h
 | q+1,u,h=>by
  simp only [Wg.plU] at h
  have key:x=⟨j,u⟩∨x∈w.plU b p j (u+1) q:=by
   split at h
   ·exact List.mem_cons.1 h
   ·exact .inr h
  rcases key with rfl | h
  ·exact ⟨rfl,u,rfl,by omega,by omega⟩
  ·obtain ⟨h1,k,h2,h3,h4⟩:=mem_plU q (u+1) h
   exact ⟨h1,k,h2,by omega,by omega⟩
theorem mem_plB {w:Wg} {b:Bool} {p:Pl} {x:Pc}:∀ (q j:Nat),x∈w.plB b p j q→∃ k:Nat,x.b=(k:Int)∧j≤k∧k<j+q∧p.left.testBit k=true∧0≤x.u∧x.u≤1
 | 0,j,h=>by simp [Wg.plB] at h
 | q+1,j,h=>by
  simp only [Wg.plB] at h
  have rcs:x∈w.plB b p (j+1) q→∃ k:Nat,x.b=(k:Int)∧j≤k∧k<j+(q+1)∧p.left.testBit k=true∧0≤x.u∧x.u≤1:=fun h=>by
   obtain ⟨k,h1,h2,h3,h4⟩:=mem_plB q (j+1) h
   exact ⟨k,h1,by omega,by omega,h4⟩
  split at h
  ·rename_i hb
   rcases List.mem_append.1 h with h | h
   ·obtain ⟨h1,k,h2,h3,h4⟩:=mem_plU 2 0 h
    exact ⟨j,h1,by omega,by omega,hb,by omega,by omega⟩
   ·exact rcs h
  ·exact rcs h
theorem mem_plL {w:Wg} {b:Bool} {p:Pl} {x:Pc} (h:x∈w.plL b p):w.pok x∧p.left.testBit x.b.toNat=true:=by
 obtain ⟨k,h1,h2,h3,h4,h5⟩:=mem_plB _ _ h
 have:x.b.toNat=k:=by omega
 exact ⟨⟨by omega,by simp only [Wg.n];omega,h5⟩,by rw [this];exact h4⟩
def itP {β:Type} (g:β→Pc→β×Bool):β→List Pc→β×Bool
 | st,[]=>(st,true)
 | st,x::r=>if (g st x).2 then itP g (g st x).1 r else ((g st x).1,false)
theorem itP_append {β:Type} (g:β→Pc→β×Bool):∀ (a c:List Pc) (st:β),itP g st (a++c)=if (itP g st a).2 then itP g (itP g st a).1 c else ((itP g st a).1,false)
 | [],c,st=>by simp [itP]
 | x::r,c,st=>by
  simp only [List.cons_append,itP]
  split
  ·exact itP_append g r c _
  ·simp
structure HearsP {β:Type} (w:Wg) (b:Bool) (p:Pl) (l m p1 p2 N y:Nat) (vb va:AV) (Hr Hd:β→Heap) (Q:β→Prop) (g:β→Pc→β×Bool):Prop where
 lr:∀ st,(Hr st).length=N
 ld:∀ st,(Hd st).length=N
 b1:∀ st,(Hr st)[p1]? = some (.box (.ptr l 0))
 b2:∀ st,(Hr st)[p2]? = some (.box p.av)
 sh:∀ st,ShAt (Hr st) l m w b vb va
 qy:∀ st x,Q st→x∈w.plL b p→Q (g st x).1
 y:∀ (b0:Nat) st x (G:Heap),Q st→x∈w.plL b p→zB1 cfg0 zA2 b0 false (.yield y) [x.av,(p.next x).av] [] (Hr st++G) none=some ⟨.ret (.bool (g st x).2),(if (g st x).2 then Hr (g st x).1 else Hd (g st x).1)++G,none⟩
theorem HearsP.app {β:Type} {w:Wg} {b:Bool} {p:Pl} {l m p1 p2 N y:Nat} {vb va:AV} {Hr Hd:β→Heap} {Q:β→Prop} {g:β→Pc→β×Bool} (hh:HearsP w b p l m p1 p2 N y vb va Hr Hd Q g) (st:β) (G:Heap) :
  (Hr st++G)[p1]? = some (.box (.ptr l 0))∧(Hr st++G)[p2]? = some (.box p.av)∧ShAt (Hr st++G) l m w b vb va∧N≤(Hr st++G).length∧p1<(Hr st++G).length∧p2<(Hr st++G).length:=by
 have h1:=hh.b1 st
 have h2:=hh.b2 st
 have l1:=(List.getElem?_eq_some_iff.1 h1).1
 have l2:=(List.getElem?_eq_some_iff.1 h2).1
 have:=hh.lr st
 refine ⟨by rw [List.getElem?_append_left l1];exact h1,by rw [List.getElem?_append_left l2];exact h2,(hh.sh st).app G,?_,?_,?_⟩<;>rw [List.length_append]<;>omega
theorem and_two {s j:Nat} (h:s.testBit j=true) (hs:s<64) (hj:j<6):zBr .andNot .u64 (s:Int) ((2^j:Nat):Int)=some ((s-2^j:Nat):Int):=by
 have key:∀ j:Nat,j<6→∀ s:Nat,s<64→s.testBit j=true→zBr .andNot .u64 (s:Int) ((2^j:Nat):Int)=some ((s-2^j:Nat):Int):=by decide +kernel
 exact key j hj s hs h
theorem shl_two {j:Nat} (hj:j<6):IntKind.u64.wrap (1*2^min j 64)=((2^j:Nat):Int):=by
 have key:∀ j:Nat,j<6→IntKind.u64.wrap (1*2^min j 64)=((2^j:Nat):Int):=by decide
 exact key j hj
theorem bit_two {s j:Nat} (hs:s<64) (hj:j<6):∃ y:Int,(s:Int).fdiv (2^min j 64)=y∧zBr .and .u64 y 1=some (if s.testBit j then 1 else 0):=by
 have key:∀ j:Nat,j<6→∀ s:Nat,s<64→zBr .and .u64 ((s:Int).fdiv (2^min j 64)) 1=some (if s.testBit j then 1 else 0):=by decide +kernel
 exact ⟨_,rfl,key j hj s hs⟩
theorem nx_l2 {β:Type} {w:Wg} (ho:w.Ok) {b:Bool} {p:Pl} (hp:p.some=true→w.pok p.top) (hl64:p.left<64) {l m p1 p2 N y:Nat} {vb va:AV} {Hr Hd:β→Heap} {Q:β→Prop} {g:β→Pc→β×Bool} (hh:HearsP w b p l m p1 p2 N y vb va Hr Hd Q g) (i:Nat) (hi:i<w.bs.length) (hb:p.left.testBit i=true) (r:β×Bool) (K:List Item) (R:Option Done) (hK:∀ G':Heap,Q r.1→r.2=true→∀ E:Env,E.get 0=.func (.yield y) [] []→E.get 1=.ptr p1 0→E.get 2=.ptr p2 0→E.get 12=I w.bs.length→E.get 13=I i→Option.map (zAd N) (zAe cfg0 zA2 ⟨77,none,false,N⟩ K ⟨E,[],Hr r.1++G',none⟩)=R) (e1:r.2=false→R=some ⟨.ret (.tup []),Hd r.1,none⟩) :
  ∀ (q j:Nat),j+q=2→∀ (G:Heap),∀ (st:β),Q st→w.plU b p i j q ⊆ w.plL b p→itP g st (w.plU b p i j q)=r→∀ E:Env,E.get 0=.func (.yield y) [] []→E.get 1=.ptr p1 0→E.get 2=.ptr p2 0→E.get 4=I i→E.get 12=I w.bs.length→E.get 13=I i→E.get 22=I j →
  Option.map (zAd N) (zAe cfg0 zA2 ⟨77,none,false,N⟩ (zA6 Tryz.f77 5::.inBlock 2::K) ⟨E,[],Hr st++G,none⟩)=R:=by
 intro q
 have h5:=ho.n.2
 simp only [Wg.n] at h5
 induction q with
 | zero =>
  intro j hj G st hq hm hr E g0 g1 g2 g4 g12 g13 g22
  have hk':¬ (j:Int)<((2:Nat):Int):=by omega
  simp only [Wg.plU,itP] at hr
  subst hr
  simp only [zA6,zA4,zA5,zA7,zA3,↓reduceIte,Option.some.injEq,Nat.reduceEqDiff,reduceCtorEq,Tryz.f77]
  rw [zA0]
  simp -implicitDefEqProofs (maxSteps:=1000000) (disch:=first|rfl|omega|assumption) only [go_sem,g0,g1,g2,g4,g12,g13,g22,ltT,ltF,leT,hk']
  exact hK G hq rfl _ (by exact g0) (by exact g1) (by exact g2) (by exact g12) (by exact g13)
 | succ q ih =>
  intro j hj G st hq hm hr E g0 g1 g2 g4 g12 g13 g22
  have hk':(j:Int)<((2:Nat):Int):=by omega
  have hk2:j<2:=by omega
  obtain ⟨K0,hK0⟩:∃ K0,Hr st++G=K0:=⟨_,rfl⟩
  have hap:=hh.app st G
  have hys:=fun b0=>hh.y b0 st ⟨i,j⟩
  have hyG:∀ (o:AO),Hr st++(G++[o])=K0++[o]:=fun o=>by rw [← List.append_assoc,hK0]
  rw [hK0] at hap
  obtain ⟨q1,q2,q3,q4,q5,q6⟩:=hap
  have q1':∀ G:Heap,(K0++G)[p1]? = some (.box (.ptr l 0)):=fun G=>by rw [List.getElem?_append_left q5];exact q1
  have q2':∀ G:Heap,(K0++G)[p2]? = some (.box p.av):=fun G=>by rw [List.getElem?_append_left q6];exact q2
  have qN:decide (N≤K0.length)=true:=by simp;exact q4
  have hJ:=fun (G:Heap) (ht:w.pok p.top)=>wr_joint (q3.app G) ho.n.2 (x:=p.top) (y:=⟨i,j⟩) ht ⟨by simp only;omega,by simp only [Wg.n];omega,by simp only;omega,by simp only;omega⟩
  have hu:w.plU b p i j (q+1)=if w.ok1 b p ⟨i,j⟩ then ⟨i,j⟩::w.plU b p i (j+1) q else w.plU b p i (j+1) q:=rfl
  rw [hu] at hr hm
  have ha1:=shl_two (j:=i) (by omega)
  have ha2:=and_two hb hl64 (by omega)
  have z:¬ (i:Int)<0:=by omega
  have hok:w.ok1 b p ⟨i,j⟩=!(p.some&&(w.jt b p.top ⟨i,j⟩ != 0)):=rfl
  rw [hK0]
  simp only [Pl.av] at q2 q2'
  have htd:∀ (st':β) (G:Heap),(Hd st'++G).take N=Hd st':=fun st' G=>List.take_left' (hh.ld st')
  cases hs:p.some
  ·have hok1:w.ok1 b p ⟨i,j⟩=true:=by rw [hok,hs];rfl
   rw [hok1,if_pos rfl] at hr hm
   have hmem:(⟨i,j⟩:Pc)∈w.plL b p:=hm (List.mem_cons_self ..)
   have hm':w.plU b p i (j+1) q ⊆ w.plL b p:=fun x hx=>hm (List.mem_cons_of_mem _ hx)
   have hy':=fun b0=>hys b0 (G++[.box (.agg [I i,I j])]) hq hmem
   rw [hyG] at hy'
   simp only [Pc.av,Pl.av,Pl.next,Int.toNat_natCast] at hy'
   simp only [itP] at hr
   have hq':=hh.qy st ⟨i,j⟩ hq hmem
   rcases Bool.eq_false_or_eq_true (g st ⟨i,j⟩).2 with hg | hg
   ·rw [hg,if_pos rfl] at hr hy'
    simp only [zA6,zA4,zA5,zA7,zA3,↓reduceIte,Option.some.injEq,Nat.reduceEqDiff,reduceCtorEq,Tryz.f77]
    rw [zA0]
    simp -implicitDefEqProofs (maxSteps:=1000000) (disch:=first|rfl|omega|assumption) only [go_sem,g0,g1,g2,g4,g12,g13,g22,ltT,ltF,leT,hk',q1,q1',q2,q2',qN,z,ha1,ha2,hs]
    rw [zAa];rotate_left;kernel_rfl
    simp -implicitDefEqProofs (maxSteps:=1000000) (disch:=first|rfl|omega|assumption) only [go_sem,g0,g1,g2,g4,g12,g13,g22,ltT,ltF,leT,hk',q1,q1',q2,q2',qN,z,ha1,ha2,hs,hy']
    have key:=ih (j+1) (by omega) (G++[.box (.agg [I i,I j])]) _ hq' hm' hr
    exact key _ g0 g1 g2 g4 g12 g13 (by rfl)
   ·rw [hg,if_neg (by simp)] at hr hy'
    subst hr
    rw [e1 rfl]
    simp only [zA6,zA4,zA5,zA7,zA3,↓reduceIte,Option.some.injEq,Nat.reduceEqDiff,reduceCtorEq,Tryz.f77]
    rw [zA0]
    simp -implicitDefEqProofs (maxSteps:=1000000) (disch:=first|rfl|omega|assumption) only [go_sem,g0,g1,g2,g4,g12,g13,g22,ltT,ltF,leT,hk',q1,q1',q2,q2',qN,z,ha1,ha2,hs]
    rw [zAa];rotate_left;kernel_rfl
    simp -implicitDefEqProofs (maxSteps:=1000000) (disch:=first|rfl|omega|assumption) only [go_sem,g0,g1,g2,g4,g12,g13,g22,ltT,ltF,leT,hk',q1,q1',q2,q2',qN,z,ha1,ha2,hs,hy',htd]
    done
  ·have ht:=hp hs
   have hJ':=fun G=>hJ G ht
   simp only [Pc.av] at hJ'
   by_cases hj0:w.jt b p.top ⟨i,j⟩=0
   ·have hok1:w.ok1 b p ⟨i,j⟩=true:=by rw [hok,hs,hj0];rfl
    rw [hok1,if_pos rfl] at hr hm
    rw [hj0] at hJ'
    have hmem:(⟨i,j⟩:Pc)∈w.plL b p:=hm (List.mem_cons_self ..)
    have hm':w.plU b p i (j+1) q ⊆ w.plL b p:=fun x hx=>hm (List.mem_cons_of_mem _ hx)
    have hy':=fun b0=>hys b0 (G++[.box (.agg [I i,I j])]) hq hmem
    rw [hyG] at hy'
    simp only [Pc.av,Pl.av,Pl.next,Int.toNat_natCast] at hy'
    simp only [itP] at hr
    have hq':=hh.qy st ⟨i,j⟩ hq hmem
    rcases Bool.eq_false_or_eq_true (g st ⟨i,j⟩).2 with hg | hg
    ·rw [hg,if_pos rfl] at hr hy'
     simp only [zA6,zA4,zA5,zA7,zA3,↓reduceIte,Option.some.injEq,Nat.reduceEqDiff,reduceCtorEq,Tryz.f77]
     rw [zA0]
     simp -implicitDefEqProofs (maxSteps:=1000000) (disch:=first|rfl|omega|assumption) only [go_sem,g0,g1,g2,g4,g12,g13,g22,ltT,ltF,leT,hk',q1,q1',q2,q2',qN,z,ha1,ha2,hs,hJ']
     rw [zAa];rotate_left;kernel_rfl
     simp -implicitDefEqProofs (maxSteps:=1000000) (disch:=first|rfl|omega|assumption) only [go_sem,g0,g1,g2,g4,g12,g13,g22,ltT,ltF,leT,hk',q1,q1',q2,q2',qN,z,ha1,ha2,hs,hJ',hy']
     have key:=ih (j+1) (by omega) (G++[.box (.agg [I i,I j])]) _ hq' hm' hr
     exact key _ g0 g1 g2 g4 g12 g13 (by rfl)
    ·rw [hg,if_neg (by simp)] at hr hy'
     subst hr
     rw [e1 rfl]
     simp only [zA6,zA4,zA5,zA7,zA3,↓reduceIte,Option.some.injEq,Nat.reduceEqDiff,reduceCtorEq,Tryz.f77]
     rw [zA0]
     simp -implicitDefEqProofs (maxSteps:=1000000) (disch:=first|rfl|omega|assumption) only [go_sem,g0,g1,g2,g4,g12,g13,g22,ltT,ltF,leT,hk',q1,q1',q2,q2',qN,z,ha1,ha2,hs,hJ']
     rw [zAa];rotate_left;kernel_rfl
     simp -implicitDefEqProofs (maxSteps:=1000000) (disch:=first|rfl|omega|assumption) only [go_sem,g0,g1,g2,g4,g12,g13,g22,ltT,ltF,leT,hk',q1,q1',q2,q2',qN,z,ha1,ha2,hs,hJ',hy',htd]
     done
   ·have hjn:(w.jt b p.top ⟨i,j⟩ != 0)=true:=by simp [hj0]
    have hok1:w.ok1 b p ⟨i,j⟩=false:=by rw [hok,hs,hjn];rfl
    rw [hok1,if_neg (by simp)] at hr hm
    simp only [zA6,zA4,zA5,zA7,zA3,↓reduceIte,Option.some.injEq,Nat.reduceEqDiff,reduceCtorEq,Tryz.f77]
    rw [zA0]
    simp -implicitDefEqProofs (maxSteps:=1000000) (disch:=first|rfl|omega|assumption) only [go_sem,g0,g1,g2,g4,g12,g13,g22,ltT,ltF,leT,hk',q1,q1',q2,q2',qN,z,ha1,ha2,hs,hJ',hjn]
    have hk:=ih (j+1) (by omega) (G++[.box (.agg [I i,I j])]) _ hq hm hr
    rw [hyG] at hk
    exact hk _ (by exact g0) (by exact g1) (by exact g2) (by exact g4) (by exact g12) (by exact g13) (by rfl)
theorem nx_l1 {β:Type} {w:Wg} (ho:w.Ok) {b:Bool} {p:Pl} (hp:p.some=true→w.pok p.top) (hl64:p.left<64) {l m p1 p2 N y:Nat} {vb va:AV} {Hr Hd:β→Heap} {Q:β→Prop} {g:β→Pc→β×Bool} (hh:HearsP w b p l m p1 p2 N y vb va Hr Hd Q g) (r:β×Bool) :
  ∀ (q j:Nat),j+q=w.bs.length→∀ (G:Heap),∀ (st:β),Q st→w.plB b p j q ⊆ w.plL b p→itP g st (w.plB b p j q)=r→∀ E:Env,E.get 0=.func (.yield y) [] []→E.get 1=.ptr p1 0→E.get 2=.ptr p2 0→E.get 12=I w.bs.length→E.get 13=I j →
  Option.map (zAd N) (zAe cfg0 zA2 ⟨77,none,false,N⟩ (zA5 Tryz.f77 1) ⟨E,[],Hr st++G,none⟩)=some ⟨.ret (.tup []),if r.2 then Hr r.1 else Hd r.1,none⟩:=by
 intro q
 have h5:=ho.n.2
 simp only [Wg.n] at h5
 have htr:∀ (st':β) (G:Heap),(Hr st'++G).take N=Hr st':=fun st' G=>List.take_left' (hh.lr st')
 induction q with
 | zero =>
  intro j hj G st hq hm hr E g0 g1 g2 g12 g13
  have hk':¬ (j:Int)<((w.bs.length:Nat):Int):=by omega
  simp only [Wg.plB,itP] at hr
  subst hr
  simp only [zA6,zA4,zA5,zA7,zA3,↓reduceIte,Option.some.injEq,Nat.reduceEqDiff,reduceCtorEq,Tryz.f77]
  rw [zA0]
  simp -implicitDefEqProofs (maxSteps:=1000000) (disch:=first|rfl|omega|assumption) only [go_sem,g0,g1,g2,g12,g13,ltT,ltF,leT,hk',htr]
  done
 | succ q ih =>
  intro j hj G st hq hm hr E g0 g1 g2 g12 g13
  have hk':(j:Int)<((w.bs.length:Nat):Int):=by omega
  have hk2:j<w.bs.length:=by omega
  obtain ⟨K0,hK0⟩:∃ K0,Hr st++G=K0:=⟨_,rfl⟩
  have hap:=hh.app st G
  rw [hK0] at hap
  obtain ⟨q1,q2,q3,q4,q5,q6⟩:=hap
  simp only [Pl.av] at q2
  have hu:w.plB b p j (q+1)=if p.left.testBit j then w.plU b p j 0 2++w.plB b p (j+1) q else w.plB b p (j+1) q:=rfl
  rw [hu] at hr hm
  obtain ⟨sh,hs1,hs2⟩:=bit_two hl64 (show j<6 by omega)
  have z:¬ (j:Int)<0:=by omega
  cases hb:p.left.testBit j
  ·rw [hb] at hs2 hr hm
   simp only [Bool.false_eq_true,if_false] at hs2 hr hm
   rw [hK0]
   simp only [zA6,zA4,zA5,zA7,zA3,↓reduceIte,Option.some.injEq,Nat.reduceEqDiff,reduceCtorEq,Tryz.f77]
   rw [zA0]
   simp -implicitDefEqProofs (maxSteps:=1000000) (disch:=first|rfl|omega|assumption) only [go_sem,g0,g1,g2,g12,g13,ltT,ltF,leT,hk',q1,q2,hs1,hs2,z]
   have key:=ih (j+1) (by omega) G st hq hm hr
   rw [hK0] at key
   refine key _ ?_ ?_ ?_ ?_ ?_
   ·exact g0
   ·exact g1
   ·exact g2
   ·exact g12
   ·rfl
  ·rw [hb] at hs2 hr hm
   simp only [if_true] at hs2 hr hm
   rw [itP_append] at hr
   rw [hK0]
   simp only [zA6,zA4,zA5,zA7,zA3,↓reduceIte,Option.some.injEq,Nat.reduceEqDiff,reduceCtorEq,Tryz.f77]
   rw [zA0]
   simp -implicitDefEqProofs (maxSteps:=1000000) (disch:=first|rfl|omega|assumption) only [go_sem,g0,g1,g2,g12,g13,ltT,ltF,leT,hk',q1,q2,hs1,hs2,z]
   rw [← hK0]
   refine nx_l2 ho hp hl64 hh j hk2 hb (itP g st (w.plU b p j 0 2)) _ _ (fun G' hq' hg E k0 k1 k2 k12 k13=>?_) (fun he=>?_) 2 0 (by omega) G st hq (fun x hx=>hm (List.mem_append_left _ hx)) rfl _ (by exact g0) (by exact g1) (by exact g2) (by rfl) (by exact g12) (by exact g13) (by rfl)
   ·rw [hg,if_pos rfl] at hr
    simp -implicitDefEqProofs (maxSteps:=1000000) (disch:=first|rfl|omega|assumption) only [go_sem,g0,g1,g2,g12,g13,hk',k0,k1,k2,k12,k13]
    have key:=ih (j+1) (by omega) G' _ hq' (fun x hx=>hm (List.mem_append_right _ hx)) hr
    exact key _ k0 k1 k2 k12 (by rfl)
   ·rw [he,if_neg (by simp)] at hr
    subst hr
    simp
theorem nx_it {β:Type} {w:Wg} (ho:w.Ok) {b:Bool} {p:Pl} (hp:p.some=true→w.pok p.top) (hl64:p.left<64) {l m p1 p2 N y:Nat} {vb va:AV} {Hr Hd:β→Heap} {Q:β→Prop} {g:β→Pc→β×Bool} (hh:HearsP w b p l m p1 p2 N y vb va Hr Hd Q g) (st:β) (hq:Q st) (r:β×Bool) (hr:itP g st (w.plL b p)=r) :
  zA9 cfg0 zA2 false 77 [.func (.yield y) [] [],.ptr p1 0,.ptr p2 0] (Hr st) none=some ⟨.ret (.tup []),if r.2 then Hr r.1 else Hd r.1,none⟩:=by
 have hl:=hh.lr st
 have hsb:=(hh.sh st).box
 have hln:=(hh.sh st).wat.bs.len
 rw [List.length_map] at hln
 have h1:=nx_l1 ho hp hl64 hh r w.bs.length 0 (by omega) [] st hq (fun x hx=>hx) hr
 simp only [List.append_nil] at h1
 refine (zA1 fn77 rfl (by simp [Tryz.f77])).trans ?_
 simp -implicitDefEqProofs (maxSteps:=1000000) (disch:=first|rfl|omega|assumption) only [go_sem,ltT,ltF,leT,hh.b1,hsb,hln,hl]
 exact h1 _ (by rfl) (by rfl) (by rfl) (by rfl) (by rfl)
theorem wr_next (l:Nat) (p:Pl) (H:Heap):zA9 cfg0 zA2 false 50 [.ptr l 0,p.av] H none=some ⟨.ret (.func (.func 77) [] [.ptr H.length 0,.ptr (H.length+1) 0]),H++[.box (.ptr l 0),.box p.av],none⟩:=by
 simp only [Pl.av]
 refine (zA1 fn50 rfl (by simp [Tryz.f50])).trans ?_
 simp -implicitDefEqProofs (maxSteps:=1000000) (disch:=first|rfl|omega|assumption) only [go_sem,ltT,ltF,leT]
abbrev Memo:=List (Pl×(Int×Int))
def tlA (t:Int×Int):AV:=.agg [I t.1,I t.2]
def kM (ms:Memo):List (AV×AV):=ms.map fun x=>(x.1.av,tlA x.2)
def lookP (p:Pl):Memo→Option (Int×Int)
 | []=>none
 | (q,t)::r=>if p.av.same q.av then some t else lookP p r
def putP (p:Pl) (t:Int×Int):Memo→Memo
 | []=>[(p,t)]
 | (q,u)::r=>if p.av.same q.av then (p,t)::r else (q,u)::putP p t r
theorem look_kM (p:Pl):∀ ms:Memo,zAk p.av (kM ms)=(lookP p ms).map tlA
 | []=>rfl
 | (q,t)::r=>by
  simp only [kM,List.map_cons,zAk,lookP]
  split
  ·rfl
  ·exact look_kM p r
theorem put_kM (p:Pl) (t:Int×Int):∀ ms:Memo,putM p.av (tlA t) (kM ms)=kM (putP p t ms)
 | []=>rfl
 | (q,u)::r=>by
  simp only [kM,List.map_cons,putM,putP]
  split
  ·rfl
  ·simp only [List.map_cons,List.cons.injEq,true_and]
   exact put_kM p t r
theorem kM_lt (N:Nat):∀ ms:Memo,zB7 N (kM ms)=true
 | []=>rfl
 | (q,u)::r=>by simp only [kM,List.map_cons,zB7,Bool.and_eq_true];exact ⟨rfl,rfl,kM_lt N r⟩
theorem pl_same {p q:Pl} (h:p.av.same q.av=true):p=q:=by
 have:=same_eq _ _ h
 obtain ⟨a,⟨b,c⟩,d⟩:=p
 obtain ⟨a',⟨b',c'⟩,d'⟩:=q
 simp only [Pl.av,AV.agg.injEq,List.cons.injEq,AV.int.injEq,true_and,and_true,AV.bool.injEq] at this
 obtain ⟨h1,h2,h3,h4⟩:=this
 have:a=a':=by omega
 subst this;subst h2;subst h3;subst h4;rfl
theorem lookP_mem {p:Pl} {t:Int×Int}:∀ {ms:Memo},lookP p ms=some t→(p,t)∈ms
 | [],h=>by simp [lookP] at h
 | (q,u)::r,h=>by
  simp only [lookP] at h
  split at h
  ·rename_i hs
   have:=pl_same hs
   subst this
   cases h
   exact List.mem_cons_self ..
  ·exact List.mem_cons_of_mem _ (lookP_mem h)
theorem putP_mem {p:Pl} {t:Int×Int} {x:Pl×(Int×Int)}:∀ {ms:Memo},x∈putP p t ms→x=(p,t)∨x∈ms
 | [],h=>by simp [putP] at h;exact .inl h
 | (q,u)::r,h=>by
  simp only [putP] at h
  split at h
  ·rcases List.mem_cons.1 h with h | h
   ·exact .inl h
   ·exact .inr (List.mem_cons_of_mem _ h)
  ·rcases List.mem_cons.1 h with h | h
   ·exact .inr (h ▸ List.mem_cons_self ..)
   ·rcases putP_mem h with h | h
    ·exact .inl h
    ·exact .inr (List.mem_cons_of_mem _ h)
def cnt (s:Nat):Nat:=(List.range 6).countP (fun i=>s.testBit i)
theorem cnt_zero {s:Nat} (hs:s<64):cnt s=0↔s=0:=by
 have key:∀ s,s<64→(cnt s=0↔s=0):=by decide +kernel
 exact key s hs
theorem cnt_clear {s j:Nat} (hs:s<64) (hj:j<6) (h:s.testBit j=true):cnt (s-2^j)+1=cnt s∧s-2^j<64:=by
 have key:∀ j:Nat,j<6→∀ s,s<64→s.testBit j=true→cnt (s-2^j)+1=cnt s∧s-2^j<64:=by decide +kernel
 exact key j hj s hs h
theorem cnt_le {s:Nat} (hs:s<64):cnt s≤6:=by
 have key:∀ s,s<64→cnt s≤6:=by decide +kernel
 exact key s hs
def bdT (c:Nat) (t:Int×Int):Prop:=0≤t.1∧t.1≤((10^c:Nat):Int)∧0≤t.2∧t.2≤10*c
def MemoOk (ms:Memo):Prop:=∀ x∈ms,bdT (cnt x.1.left) x.2
def Wg.stp (w:Wg) (f:Memo→Pl→(Int×Int)×Memo) (p:Pl) (st:Memo×(Int×Int)) (x:Pc):Memo×(Int×Int) :=
 ((f st.1 (p.next x)).2,if (f st.1 (p.next x)).1.1=0 then st.2 else (st.2.1+(f st.1 (p.next x)).1.1,if st.2.1=0∨(f st.1 (p.next x)).1.2+w.film p x<st.2.2 then (f st.1 (p.next x)).1.2+w.film p x else st.2.2))
def Wg.ofM (w:Wg) (b:Bool):Nat→Memo→Pl→(Int×Int)×Memo
 | 0,ms,_=>((1,0),ms)
 | n+1,ms,p=>if p.left=0 then ((1,0),ms) else match lookP p ms with
  | some t=>(t,ms)
  | none=>(((w.plL b p).foldl (w.stp (w.ofM b n) p) (ms,(0,0))).2,putP p ((w.plL b p).foldl (w.stp (w.ofM b n) p) (ms,(0,0))).2 ((w.plL b p).foldl (w.stp (w.ofM b n) p) (ms,(0,0))).1)
structure Pl.Ok (w:Wg) (p:Pl):Prop where
 lt:p.left<2^w.bs.length
 top:p.some=true→w.pok p.top
theorem Pl.Ok.lt64 {w:Wg} (ho:w.Ok) {p:Pl} (h:p.Ok w):p.left<64:=by
 have h1:=h.lt
 have h2:(2:Nat)^w.bs.length≤2^6:=Nat.pow_le_pow_right (by omega) (by have:=ho.n.2;simp only [Wg.n] at this;omega)
 omega
theorem zBd {w:Wg} (ho:w.Ok) {b:Bool} {p:Pl} (h:p.Ok w) {x:Pc} (hx:x∈w.plL b p):(p.next x).Ok w∧cnt (p.next x).left+1=cnt p.left:=by
 obtain ⟨h1,h2⟩:=mem_plL hx
 have h5:=ho.n.2
 obtain ⟨k1,k2,k3,k4⟩:=id h1
 simp only [Wg.n] at h5 k2
 have hc:=cnt_clear (h.lt64 ho) (show x.b.toNat<6 by omega) h2
 refine ⟨⟨?_,fun _=>h1⟩,hc.1⟩
 exact Nat.lt_of_le_of_lt (Nat.sub_le _ _) h.lt
theorem plU_len (w:Wg) (b:Bool) (p:Pl) (j:Nat):∀ (q u:Nat),(w.plU b p j u q).length≤q
 | 0,_=>by simp [Wg.plU]
 | q+1,u=>by
  have:=plU_len w b p j q (u+1)
  simp only [Wg.plU]
  split
  ·simp only [List.length_cons];omega
  ·omega
theorem plB_len (w:Wg) (b:Bool) (p:Pl):∀ (q j:Nat),(w.plB b p j q).length≤2*q
 | 0,_=>by simp [Wg.plB]
 | q+1,j=>by
  have:=plB_len w b p q (j+1)
  have h2:=plU_len w b p j 2 0
  simp only [Wg.plB]
  split
  ·simp only [List.length_append];omega
  ·omega
theorem film_bd {w:Wg} (ho:w.Ok) {p:Pl} (h:p.Ok w) {x:Pc} (hx:w.pok x):0≤w.film p x∧w.film p x≤10:=by
 simp only [Wg.film]
 split
 ·rename_i hs
  have h1:=(ho.fa (h.top hs)).sp
  have h2:=(ho.fb hx).sp
  omega
 ·omega
theorem pow_ten (c:Nat):((10^(c+1):Nat):Int)=10*((10^c:Nat):Int):=by
 rw [Nat.pow_succ,Int.natCast_mul,Int.mul_comm];rfl
theorem ofM_bd {w:Wg} (ho:w.Ok) (b:Bool):∀ (n:Nat) (ms:Memo) (p:Pl),p.Ok w→cnt p.left≤n→MemoOk ms→bdT (cnt p.left) (w.ofM b n ms p).1∧MemoOk (w.ofM b n ms p).2
 | 0,ms,p,h,hc,hm=>by
  have:(1:Int)≤((10^cnt p.left:Nat):Int):=by have:=Nat.pow_pos (n:=cnt p.left) (show 0<10 by omega);omega
  exact ⟨⟨by simp only [Wg.ofM];omega,this,by simp [Wg.ofM],by simp only [Wg.ofM];omega⟩,hm⟩
 | n+1,ms,p,h,hc,hm=>by
  simp only [Wg.ofM]
  split
  ·have:(1:Int)≤((10^cnt p.left:Nat):Int):=by have:=Nat.pow_pos (n:=cnt p.left) (show 0<10 by omega);omega
   exact ⟨⟨by simp only;omega,this,by simp,by simp only;omega⟩,hm⟩
  ·rename_i h0
   split
   ·rename_i t ht
    exact ⟨hm _ (lookP_mem ht),hm⟩
   ·have hcp:cnt p.left≠0:=fun e=>h0 ((cnt_zero (h.lt64 ho)).1 e)
    obtain ⟨c,hce⟩:∃ c,cnt p.left=c+1:=⟨cnt p.left-1,by omega⟩
    have key:∀ (xs:List Pc) (st:Memo×(Int×Int)) (k:Nat),(∀ x∈xs,x∈w.plL b p)→MemoOk st.1→0≤st.2.1→st.2.1≤k*((10^c:Nat):Int)→0≤st.2.2→st.2.2≤10*(c+1:Nat) →
      MemoOk (xs.foldl (w.stp (w.ofM b n) p) st).1∧0≤(xs.foldl (w.stp (w.ofM b n) p) st).2.1∧(xs.foldl (w.stp (w.ofM b n) p) st).2.1≤((k+xs.length:Nat):Int)*((10^c:Nat):Int)∧0≤(xs.foldl (w.stp (w.ofM b n) p) st).2.2∧(xs.foldl (w.stp (w.ofM b n) p) st).2.2≤10*(c+1:Nat):=by
     intro xs
     induction xs with
     | nil=>intro st k _ h1 h2 h3 h4 h5;exact ⟨h1,h2,h3,h4,h5⟩
     | cons x r ih =>
      intro st k hx h1 h2 h3 h4 h5
      have hxm:=hx x (List.mem_cons_self ..)
      obtain ⟨g1,g2⟩:=zBd ho h hxm
      have gc:cnt (p.next x).left=c:=by omega
      obtain ⟨⟨i1,i2,i3,i4⟩,i5⟩:=ofM_bd ho b n st.1 (p.next x) g1 (by omega) h1
      rw [gc] at i2 i4
      have hf:=film_bd ho h (mem_plL hxm).1
      rw [List.foldl_cons]
      have e:k+(x::r).length=(k+1)+r.length:=by simp only [List.length_cons];omega
      rw [e]
      have ek:((k+1:Nat):Int)*((10^c:Nat):Int)=(k:Int)*((10^c:Nat):Int)+((10^c:Nat):Int):=by
       rw [Int.natCast_succ,Int.add_mul,Int.one_mul]
      refine ih _ (k+1) (fun y hy=>hx y (List.mem_cons_of_mem _ hy)) ?_ ?_ ?_ ?_ ?_
      ·exact i5
      ·simp only [Wg.stp];split
       ·exact h2
       ·simp only;omega
      ·rw [ek];simp only [Wg.stp];split
       ·omega
       ·simp only;omega
      ·simp only [Wg.stp];split
       ·exact h4
       ·simp only;split<;>omega
      ·simp only [Wg.stp];split
       ·exact h5
       ·simp only;split<;>omega
    obtain ⟨k1,k2,k3,k4,k5⟩:=key (w.plL b p) (ms,(0,0)) 0 (fun x hx=>hx) hm (by simp) (by simp) (by simp) (by simp only;omega)
    have hlen:(w.plL b p).length≤10:=by
     have:=plB_len w b p w.bs.length 0
     have h5:=ho.n.2
     simp only [Wg.n] at h5
     simp only [Wg.plL];omega
    have hb:bdT (c+1) ((w.plL b p).foldl (w.stp (w.ofM b n) p) (ms,(0,0))).2:=by
     refine ⟨k2,?_,k4,k5⟩
     rw [pow_ten]
     refine Int.le_trans k3 ?_
     exact Int.mul_le_mul_of_nonneg_right (by omega) (Int.natCast_nonneg _)
    rw [hce]
    refine ⟨hb,fun x hx=>?_⟩
    rcases putP_mem hx with rfl | hx
    ·simp only;rw [hce];exact hb
    ·exact k1 x hx
structure TlAt (H:Heap) (k k1 k2 k3 l m:Nat) (w:Wg) (b:Bool) (vb va:AV) (ms:Memo):Prop where
 c1:H[k1]? = some (.box (.map k))
 mp:H[k]? = some (.map 112 (kM ms))
 c2:H[k2]? = some (.box (.ptr l 0))
 c3:H[k3]? = some (.box (.func (.func 76) [] [.ptr k1 0,.ptr k2 0,.ptr k3 0]))
 sh:ShAt H l m w b vb va
 nm:k≠m
theorem SlOk.setm {sz:Nat} {v:AV} {xs:List AV} {k t:Nat} {es es':List (AV×AV)} (h:SlOk H sz v xs) (hk:H[k]? = some (.map t es)):SlOk (H.set k (.map t es')) sz v xs:=by
 obtain ⟨h1,h2⟩:=h
 refine ⟨?_,h2⟩
 cases v<;>simp only at h1 ⊢
 ·exact h1
 ·rename_i g n
  refine ⟨?_,h1.2⟩
  rw [List.getElem?_set_ne]
  ·exact h1.1
  ·rintro rfl
   rw [hk] at h1
   cases h1.1
theorem TlAt.app {k k1 k2 k3 l m:Nat} {w:Wg} {b:Bool} {vb va:AV} {ms:Memo} (h:TlAt H k k1 k2 k3 l m w b vb va ms) (G:Heap):TlAt (H++G) k k1 k2 k3 l m w b vb va ms where
 c1:=by rw [List.getElem?_append_left (List.getElem?_eq_some_iff.1 h.c1).1];exact h.c1
 mp:=by rw [List.getElem?_append_left (List.getElem?_eq_some_iff.1 h.mp).1];exact h.mp
 c2:=by rw [List.getElem?_append_left (List.getElem?_eq_some_iff.1 h.c2).1];exact h.c2
 c3:=by rw [List.getElem?_append_left (List.getElem?_eq_some_iff.1 h.c3).1];exact h.c3
 sh:=h.sh.app G
 nm:=h.nm
theorem TlAt.put {k k1 k2 k3 l m:Nat} {w:Wg} {b:Bool} {vb va:AV} {ms:Memo} (h:TlAt H k k1 k2 k3 l m w b vb va ms) (ms':Memo):TlAt (H.set k (.map 112 (kM ms'))) k k1 k2 k3 l m w b vb va ms':=by
 have hk:=h.mp
 have lk:=(List.getElem?_eq_some_iff.1 hk).1
 have ne:∀ {i:Nat} {o:AO},H[i]? = some o→(∀ t es,o≠.map t es)→(H.set k (.map 112 (kM ms')))[i]? = some o:=by
  intro i o hi hn
  rw [List.getElem?_set_ne]
  ·exact hi
  ·rintro rfl
   rw [hk] at hi
   cases hi
   exact hn _ _ rfl
 exact {
  c1:=ne h.c1 (by simp)
  mp:=by rw [List.getElem?_set_self lk]
  c2:=ne h.c2 (by simp)
  c3:=ne h.c3 (by simp)
  sh:=⟨ne h.sh.box (by simp),by rw [List.getElem?_set_ne h.nm];exact h.sh.map,⟨h.sh.wat.bs.setm hk,h.sh.wat.ps.setm hk⟩⟩
  nm:=h.nm }
theorem TlAt.ms0 {k k1 k2 k3 l m:Nat} {w:Wg} {b:Bool} {vb va:AV} {ms:Memo} (h:TlAt H k k1 k2 k3 l m w b vb va ms):H.set k (.map 112 (kM ms))=H:=set_self h.mp
def OfOk (w:Wg) (b:Bool) (k k1 k2 k3 l m:Nat) (vb va:AV) (n:Nat):Prop :=
 ∀ (H:Heap) (ms:Memo) (p:Pl),TlAt H k k1 k2 k3 l m w b vb va ms→p.Ok w→cnt p.left≤n→MemoOk ms →
  zA9 cfg0 zA2 false 76 [p.av,.ptr k1 0,.ptr k2 0,.ptr k3 0] H none=some ⟨.ret (tlA (w.ofM b n ms p).1),H.set k (.map 112 (kM (w.ofM b n ms p).2)),none⟩
theorem of_zero {w:Wg} {b:Bool} {k k1 k2 k3 l m:Nat} {vb va:AV} (n:Nat) {ms:Memo} {p:Pl} (hT:TlAt H k k1 k2 k3 l m w b vb va ms) (h0:p.left=0) :
  zA9 cfg0 zA2 false 76 [p.av,.ptr k1 0,.ptr k2 0,.ptr k3 0] H none=some ⟨.ret (tlA (w.ofM b n ms p).1),H.set k (.map 112 (kM (w.ofM b n ms p).2)),none⟩:=by
 have e:w.ofM b n ms p=((1,0),ms):=by
  cases n with
  | zero=>rfl
  | succ n=>simp only [Wg.ofM,h0,if_true]
 rw [e,hT.ms0]
 simp only [Pl.av,tlA,h0]
 refine (zA1 fn76 rfl (by simp [Tryz.f76])).trans ?_
 simp -implicitDefEqProofs (maxSteps:=1000000) (disch:=first|rfl|omega|assumption) only [go_sem,ltT,ltF,leT]
theorem of_kept {w:Wg} {b:Bool} {k k1 k2 k3 l m:Nat} {vb va:AV} (n:Nat) {ms:Memo} {p:Pl} {t:Int×Int} (hT:TlAt H k k1 k2 k3 l m w b vb va ms) (h0:p.left≠0) (hl:lookP p ms=some t) :
  zA9 cfg0 zA2 false 76 [p.av,.ptr k1 0,.ptr k2 0,.ptr k3 0] H none=some ⟨.ret (tlA (w.ofM b (n+1) ms p).1),H.set k (.map 112 (kM (w.ofM b (n+1) ms p).2)),none⟩:=by
 have e:w.ofM b (n+1) ms p=(t,ms):=by simp only [Wg.ofM,if_neg h0,hl]
 rw [e,hT.ms0]
 have hlk:=look_kM p ms
 rw [hl] at hlk
 have hn:((p.left:Int)==0)=false:=by simp [h0]
 have c1:=fun G=>(hT.app G).c1
 have mp:=fun G=>(hT.app G).mp
 simp only [Pl.av,tlA,Option.map_some] at hlk ⊢
 refine (zA1 fn76 rfl (by simp [Tryz.f76])).trans ?_
 simp -implicitDefEqProofs (maxSteps:=1000000) (disch:=first|rfl|omega|assumption) only [go_sem,ltT,ltF,leT,hn,c1,mp,hlk]
def Wg.stW (w:Wg) (f:Memo→Pl→(Int×Int)×Memo) (p:Pl) (st:Memo×(Int×Int)) (x:Pc):Memo×(Int×Int) :=
 ((f st.1 (p.next x)).2,if (f st.1 (p.next x)).1.1=0 then st.2 else (IntKind.i64.wrap (st.2.1+(f st.1 (p.next x)).1.1),if st.2.1=0∨(f st.1 (p.next x)).1.2+w.film p x<st.2.2 then (f st.1 (p.next x)).1.2+w.film p x else st.2.2))
theorem set_app {k:Nat} {o:AO} (hk:k<H.length) (G:Heap):(H++G).set k o=H.set k o++G:=by
 rw [List.set_append_left _ _ hk]
theorem of_round {b0:Nat} {w:Wg} {b:Bool} (ho:w.Ok) {k k1 k2 k3 l m:Nat} {vb va:AV} (n:Nat) (ih:OfOk w b k k1 k2 k3 l m vb va n) {ms:Memo} {p:Pl} (hT:TlAt H k k1 k2 k3 l m w b vb va ms) (hp:p.Ok w) (hc:cnt p.left≤n+1) {st:Memo×(Int×Int)} {x:Pc} (G:Heap) (hq:MemoOk st.1) (hx:x∈w.plL b p) :
  zB1 cfg0 zA2 b0 false (.yield (H.length+7)) [x.av,(p.next x).av] [] ((H.set k (.map 112 (kM st.1))++[.box p.av,.box (.agg [I 0,I 0]),.box (.agg [I 0,I 0]),.box (tlA st.2),.box (.ptr l 0),.box p.av,.dfr,.loop (zAn Tryz.f76 76 0 [(27,.func (.func 77) [] [.ptr (H.length+4) 0,.ptr (H.length+5) 0]),(26,p.av),(25,.ptr l 0),(8,.ptr (H.length+3) 0),(23,.bool false),(7,.bool false),(6,.ptr (H.length+2) 0),(22,.bool false),(21,.agg [I 0,I 0]),(17,.tup [.agg [I 0,I 0],.bool false]),(20,.tup [.agg [I 0,I 0],.bool false]),(19,p.av),(18,.map k),(15,.bool false),(14,U p.left),(13,.ptr H.length 0),(5,.ptr (H.length+1) 0),(4,.ptr H.length 0),(0,p.av),(1,.ptr k1 0),(2,.ptr k2 0),(3,.ptr k3 0)] (H.length+6))])++G) none=some ⟨.ret (.bool true),(H.set k (.map 112 (kM (w.stW (w.ofM b n) p st x).1))++[.box p.av,.box (.agg [I 0,I 0]),.box (.agg [I 0,I 0]),.box (tlA (w.stW (w.ofM b n) p st x).2),.box (.ptr l 0),.box p.av,.dfr,.loop (zAn Tryz.f76 76 0 [(27,.func (.func 77) [] [.ptr (H.length+4) 0,.ptr (H.length+5) 0]),(26,p.av),(25,.ptr l 0),(8,.ptr (H.length+3) 0),(23,.bool false),(7,.bool false),(6,.ptr (H.length+2) 0),(22,.bool false),(21,.agg [I 0,I 0]),(17,.tup [.agg [I 0,I 0],.bool false]),(20,.tup [.agg [I 0,I 0],.bool false]),(19,p.av),(18,.map k),(15,.bool false),(14,U p.left),(13,.ptr H.length 0),(5,.ptr (H.length+1) 0),(4,.ptr H.length 0),(0,p.av),(1,.ptr k1 0),(2,.ptr k2 0),(3,.ptr k3 0)] (H.length+6))])++G,none⟩:=by
 obtain ⟨g1,g2⟩:=zBd ho hp hx
 have hxp:=(mem_plL hx).1
 have lk:=(List.getElem?_eq_some_iff.1 hT.mp).1
 have hih:∀ G':Heap,zA9 cfg0 zA2 false 76 [(p.next x).av,.ptr k1 0,.ptr k2 0,.ptr k3 0] (H.set k (.map 112 (kM st.1))++G') none=some ⟨.ret (tlA (w.ofM b n st.1 (p.next x)).1),H.set k (.map 112 (kM (w.ofM b n st.1 (p.next x)).2))++G',none⟩:=fun G'=>by
  rw [ih _ st.1 (p.next x) ((hT.put st.1).app G') g1 (by omega) hq,set_app (by simpa using lk),List.set_set]
 have hfi:∀ (ms':Memo) (G':Heap),zA9 cfg0 zA2 false 51 [.ptr l 0,p.av,x.av] (H.set k (.map 112 (kM ms'))++G') none=some ⟨.ret (I (w.film p x)),H.set k (.map 112 (kM ms'))++G',none⟩:=fun ms' G'=>wr_film ((hT.put ms').app G').sh ho hp.top hxp
 have c2:∀ (ms':Memo) (G':Heap),(H.set k (.map 112 (kM ms'))++G')[k2]? = some (.box (.ptr l 0)):=fun ms' G'=>((hT.put ms').app G').c2
 have c3:∀ (ms':Memo) (G':Heap),(H.set k (.map 112 (kM ms'))++G')[k3]? = some (.box (.func (.func 76) [] [.ptr k1 0,.ptr k2 0,.ptr k3 0])):=fun ms' G'=>((hT.put ms').app G').c3
 have hlen:∀ ms':Memo,(H.set k (.map 112 (kM ms'))).length=H.length:=fun ms'=>by simp
 obtain ⟨⟨b1,b2,b3,b4⟩,b5⟩:=ofM_bd ho b n st.1 (p.next x) g1 (by omega) hq
 have b6:=cnt_le (g1.lt64 ho)
 have b7:(w.ofM b n st.1 (p.next x)).1.2≤60:=by omega
 obtain ⟨f1,f2⟩:=film_bd ho hp hxp
 have hst:w.stW (w.ofM b n) p st x=((w.ofM b n st.1 (p.next x)).2,if (w.ofM b n st.1 (p.next x)).1.1=0 then st.2 else (IntKind.i64.wrap (st.2.1+(w.ofM b n st.1 (p.next x)).1.1),if st.2.1=0∨(w.ofM b n st.1 (p.next x)).1.2+w.film p x<st.2.2 then (w.ofM b n st.1 (p.next x)).1.2+w.film p x else st.2.2)):=rfl
 rw [hst]
 clear hst
 generalize w.ofM b n st.1 (p.next x)=o at *
 generalize w.film p x=fm at *
 obtain ⟨⟨o1,o2⟩,ms'⟩:=o
 obtain ⟨ms0,s1,s2⟩:=st
 simp only [Pl.av,Pc.av,Pl.next,tlA] at hih hfi b1 b2 b3 b4 b7 ⊢
 by_cases h1:o1=0
 ·have h1b:(o1==0)=true:=by simp [h1]
  rw [if_pos h1]
  simp -implicitDefEqProofs (maxSteps:=1000000) (disch:=first|rfl|omega|assumption) only [go_sem,ltT,ltF,leT,zAn,zAm,List.nil_append,List.append_nil,List.cons_append,List.getElem?_cons_zero,List.getElem?_cons_succ,Tryz.f76,hih,hfi,c2,c3,hlen,h1b]
  done
 ·have h1b:(o1==0)=false:=by simp [h1]
  rw [if_neg h1]
  by_cases h2:s1=0
  ·have h2b:(s1==0)=true:=by simp [h2]
   rw [if_pos (.inl h2)]
   simp -implicitDefEqProofs (maxSteps:=1000000) (disch:=first|rfl|omega|assumption) only [go_sem,ltT,ltF,leT,zAn,zAm,List.nil_append,List.append_nil,List.cons_append,List.getElem?_cons_zero,List.getElem?_cons_succ,Tryz.f76,hih,hfi,c2,c3,hlen,h1b]
   rw [zAa];rotate_left;kernel_rfl
   simp -implicitDefEqProofs (maxSteps:=1000000) (disch:=first|rfl|omega|assumption) only [go_sem,ltT,ltF,leT,zAn,zAm,List.nil_append,List.append_nil,List.cons_append,List.getElem?_cons_zero,List.getElem?_cons_succ,Tryz.f76,hih,hfi,c2,c3,hlen,h1b,h2b]
   done
  ·have h2b:(s1==0)=false:=by simp [h2]
   by_cases h3:o2+fm<s2
   ·rw [if_pos (.inr h3)]
    simp -implicitDefEqProofs (maxSteps:=1000000) (disch:=first|rfl|omega|assumption) only [go_sem,ltT,ltF,leT,zAn,zAm,List.nil_append,List.append_nil,List.cons_append,List.getElem?_cons_zero,List.getElem?_cons_succ,Tryz.f76,hih,hfi,c2,c3,hlen,h1b]
    rw [zAa];rotate_left;kernel_rfl
    simp -implicitDefEqProofs (maxSteps:=1000000) (disch:=first|rfl|omega|assumption) only [go_sem,ltT,ltF,leT,zAn,zAm,List.nil_append,List.append_nil,List.cons_append,List.getElem?_cons_zero,List.getElem?_cons_succ,Tryz.f76,hih,hfi,c2,c3,hlen,h1b,h2b]
    done
   ·rw [if_neg (fun h=>h.elim h2 h3)]
    simp -implicitDefEqProofs (maxSteps:=1000000) (disch:=first|rfl|omega|assumption) only [go_sem,ltT,ltF,leT,zAn,zAm,List.nil_append,List.append_nil,List.cons_append,List.getElem?_cons_zero,List.getElem?_cons_succ,Tryz.f76,hih,hfi,c2,c3,hlen,h1b]
    rw [zAa];rotate_left;kernel_rfl
    simp -implicitDefEqProofs (maxSteps:=1000000) (disch:=first|rfl|omega|assumption) only [go_sem,ltT,ltF,leT,zAn,zAm,List.nil_append,List.append_nil,List.cons_append,List.getElem?_cons_zero,List.getElem?_cons_succ,Tryz.f76,hih,hfi,c2,c3,hlen,h1b,h2b]
    done
theorem itP_true {β:Type} (g:β→Pc→β):∀ (xs:List Pc) (st:β),itP (fun st x=>(g st x,true)) st xs=(xs.foldl g st,true)
 | [],_=>rfl
 | x::r,st=>by simp only [itP,if_true,List.foldl_cons];exact itP_true g r _
theorem pow_le5 {c:Nat} (h:c≤5):((10^c:Nat):Int)≤100000:=by
 have key:∀ c:Nat,c<6→((10^c:Nat):Int)≤100000:=by decide
 exact key c (by omega)
theorem fold_stW {w:Wg} (ho:w.Ok) {b:Bool} (n:Nat) {p:Pl} (hp:p.Ok w) (hc:cnt p.left≤n+1) (xs:List Pc):∀ (st:Memo×(Int×Int)) (k:Nat),xs ⊆ w.plL b p→MemoOk st.1→0≤st.2.1→st.2.1≤k*100000→k+xs.length≤20→xs.foldl (w.stW (w.ofM b n) p) st=xs.foldl (w.stp (w.ofM b n) p) st:=by
 induction xs with
 | nil=>intros;rfl
 | cons x r ih =>
  intro st k hx hm h1 h2 h3
  have hxm:x∈w.plL b p:=hx (List.mem_cons_self ..)
  obtain ⟨g1,g2⟩:=zBd ho hp hxm
  have hbd:=ofM_bd ho b n st.1 (p.next x) g1 (by omega) hm
  have b5:=hbd.2
  have b1:=hbd.1.1
  have b6:=cnt_le (hp.lt64 ho)
  have b9:(w.ofM b n st.1 (p.next x)).1.1≤100000:=Int.le_trans hbd.1.2.1 (pow_le5 (by omega))
  clear hbd
  simp only [List.length_cons] at h3
  have e:w.stW (w.ofM b n) p st x=w.stp (w.ofM b n) p st x:=by
   simp only [Wg.stW,Wg.stp]
   rw [w64 (by omega) (by omega)]
  rw [List.foldl_cons,List.foldl_cons,e]
  refine ih _ (k+1) (fun y hy=>hx (List.mem_cons_of_mem _ hy)) b5 ?_ ?_ (by omega)
  ·simp only [Wg.stp];split
   ·exact h1
   ·simp only;omega
  ·simp only [Wg.stp];split
   ·omega
   ·simp only;omega
theorem of_new {w:Wg} {b:Bool} (ho:w.Ok) {k k1 k2 k3 l m:Nat} {vb va:AV} (n:Nat) (ih:OfOk w b k k1 k2 k3 l m vb va n) {ms:Memo} {p:Pl} (hT:TlAt H k k1 k2 k3 l m w b vb va ms) (hp:p.Ok w) (hc:cnt p.left≤n+1) (hm:MemoOk ms) (h0:p.left≠0) (hl:lookP p ms=none) :
  zA9 cfg0 zA2 false 76 [p.av,.ptr k1 0,.ptr k2 0,.ptr k3 0] H none=some ⟨.ret (tlA (w.ofM b (n+1) ms p).1),H.set k (.map 112 (kM (w.ofM b (n+1) ms p).2)),none⟩:=by
 have hI:=nx_it ho (fun h=>hp.top h) (hp.lt64 ho) (l:=l) (m:=m) (b:=b) (vb:=vb) (va:=va) (p1:=H.length+4) (p2:=H.length+5) (N:=H.length+8) (y:=H.length+7)
  (Hr:=fun st:Memo×(Int×Int)=>H.set k (.map 112 (kM st.1))++[.box p.av,.box (.agg [I 0,I 0]),.box (.agg [I 0,I 0]),.box (tlA st.2),.box (.ptr l 0),.box p.av,.dfr,.loop (zAn Tryz.f76 76 0 [(27,.func (.func 77) [] [.ptr (H.length+4) 0,.ptr (H.length+5) 0]),(26,p.av),(25,.ptr l 0),(8,.ptr (H.length+3) 0),(23,.bool false),(7,.bool false),(6,.ptr (H.length+2) 0),(22,.bool false),(21,.agg [I 0,I 0]),(17,.tup [.agg [I 0,I 0],.bool false]),(20,.tup [.agg [I 0,I 0],.bool false]),(19,p.av),(18,.map k),(15,.bool false),(14,U p.left),(13,.ptr H.length 0),(5,.ptr (H.length+1) 0),(4,.ptr H.length 0),(0,p.av),(1,.ptr k1 0),(2,.ptr k2 0),(3,.ptr k3 0)] (H.length+6))])
  (Hd:=fun st:Memo×(Int×Int)=>H.set k (.map 112 (kM st.1))++[.box p.av,.box (.agg [I 0,I 0]),.box (.agg [I 0,I 0]),.box (tlA st.2),.box (.ptr l 0),.box p.av,.dfr,.loop (zAn Tryz.f76 76 0 [(27,.func (.func 77) [] [.ptr (H.length+4) 0,.ptr (H.length+5) 0]),(26,p.av),(25,.ptr l 0),(8,.ptr (H.length+3) 0),(23,.bool false),(7,.bool false),(6,.ptr (H.length+2) 0),(22,.bool false),(21,.agg [I 0,I 0]),(17,.tup [.agg [I 0,I 0],.bool false]),(20,.tup [.agg [I 0,I 0],.bool false]),(19,p.av),(18,.map k),(15,.bool false),(14,U p.left),(13,.ptr H.length 0),(5,.ptr (H.length+1) 0),(4,.ptr H.length 0),(0,p.av),(1,.ptr k1 0),(2,.ptr k2 0),(3,.ptr k3 0)] (H.length+6))])
  (Q:=fun st=>MemoOk st.1) (g:=fun st x=>(w.stW (w.ofM b n) p st x,true))
  ⟨fun st=>by simp,fun st=>by simp,fun st=>by simp,fun st=>by simp,fun st=>((hT.put st.1).app _).sh,fun st x hq hx=>(ofM_bd ho b n st.1 (p.next x) (zBd ho hp hx).1 (by have:=(zBd ho hp hx).2;omega) hq).2,fun b0 st x G hq hx=>by
   have:=of_round (b0:=b0) ho n ih hT hp hc G hq hx
   simp only [ite_self]
   exact this⟩ (ms,(0,0)) hm _ rfl
 rw [itP_true,fold_stW ho n hp hc (w.plL b p) (ms,(0,0)) 0 (fun x hx=>hx) hm (by simp) (by simp) (by
  have:=plB_len w b p w.bs.length 0
  have h5:=ho.n.2
  simp only [Wg.n] at h5
  simp only [Wg.plL];omega)] at hI
 have e:w.ofM b (n+1) ms p=(((w.plL b p).foldl (w.stp (w.ofM b n) p) (ms,(0,0))).2,putP p ((w.plL b p).foldl (w.stp (w.ofM b n) p) (ms,(0,0))).2 ((w.plL b p).foldl (w.stp (w.ofM b n) p) (ms,(0,0))).1):=by
  simp only [Wg.ofM,if_neg h0,hl]
 rw [e]
 generalize (w.plL b p).foldl (w.stp (w.ofM b n) p) (ms,(0,0))=r at *
 obtain ⟨ms',s1,s2⟩:=r
 have hlk:=look_kM p ms
 rw [hl] at hlk
 have hput:=put_kM p (s1,s2) ms'
 have hn:((p.left:Int)==0)=false:=by simp [h0]
 have c1:=fun G=>(hT.app G).c1
 have c2:=fun G=>(hT.app G).c2
 have mp:=fun G=>(hT.app G).mp
 have c1':=fun (ms':Memo) (G:Heap)=>((hT.put ms').app G).c1
 have mp':=fun (ms':Memo) (G:Heap)=>((hT.put ms').app G).mp
 have hN:=fun G=>wr_next l p G
 have lk:=(List.getElem?_eq_some_iff.1 hT.mp).1
 have hsa:=fun (o:AO) (G:Heap)=>set_app (o:=o) lk G
 have hsb:=fun (o o':AO) (G:Heap)=>set_app (H:=H.set k o) (o:=o') (by simpa using lk) G
 rw [hT.ms0] at hI
 simp only [Pl.av,tlA,Option.map_none,if_true] at hlk hN hput hI ⊢
 refine (zA1 fn76 rfl (by simp [Tryz.f76])).trans ?_
 simp -implicitDefEqProofs (maxSteps:=1000000) (disch:=first|rfl|omega|assumption) only [go_sem,ltT,ltF,leT,hn,c1,c2,mp,hlk,hN]
 simp only [zAn,zAm,List.nil_append,List.append_nil,List.cons_append,List.getElem?_cons_zero,List.getElem?_cons_succ,Tryz.f76] at hI
 simp -implicitDefEqProofs (maxSteps:=1000000) (disch:=first|rfl|omega|assumption) only [go_sem,ltT,ltF,leT,hI,c1',mp',hput,hsa,hsb,List.set_set]
 done
def Wg.stT (w:Wg) (f:Pl→Int×Int) (p:Pl) (st:Int×Int) (x:Pc):Int×Int :=
 if (f (p.next x)).1=0 then st else (st.1+(f (p.next x)).1,if st.1=0∨(f (p.next x)).2+w.film p x<st.2 then (f (p.next x)).2+w.film p x else st.2)
def Wg.talF (w:Wg) (b:Bool):Nat→Pl→Int×Int
 | 0,_=>(1,0)
 | n+1,p=>if p.left=0 then (1,0) else (w.plL b p).foldl (w.stT (w.talF b n) p) (0,0)
abbrev Wg.tal (w:Wg) (b:Bool) (p:Pl):Int×Int:=w.talF b 6 p
theorem foldl_con {α β:Type} {f g:β→α→β}:∀ (l:List α) (s:β),(∀ x∈l,∀ s,f s x=g s x)→l.foldl f s=l.foldl g s
 | [],_,_=>rfl
 | x::r,s,h=>by
  rw [List.foldl_cons,List.foldl_cons,h x (List.mem_cons_self ..)]
  exact foldl_con r _ (fun y hy=>h y (List.mem_cons_of_mem _ hy))
theorem tal_fuel {w:Wg} (ho:w.Ok) (b:Bool):∀ (n m:Nat) (p:Pl),p.Ok w→cnt p.left≤n→cnt p.left≤m→w.talF b n p=w.talF b m p
 | 0,m,p,hp,h1,h2=>by
  have h0:=(cnt_zero (hp.lt64 ho)).1 (by omega)
  cases m with
  | zero=>rfl
  | succ m=>simp only [Wg.talF,if_pos h0]
 | n+1,m,p,hp,h1,h2=>by
  by_cases h0:p.left=0
  ·cases m with
   | zero=>simp only [Wg.talF,if_pos h0]
   | succ m=>simp only [Wg.talF,if_pos h0]
  ·have hc:cnt p.left≠0:=fun e=>h0 ((cnt_zero (hp.lt64 ho)).1 e)
   cases m with
   | zero=>omega
   | succ m =>
    simp only [Wg.talF,if_neg h0]
    refine foldl_con _ _ (fun x hx s=>?_)
    obtain ⟨g1,g2⟩:=zBd ho hp hx
    simp only [Wg.stT,tal_fuel ho b n m (p.next x) g1 (by omega) (by omega)]
def MemoG (w:Wg) (b:Bool) (ms:Memo):Prop:=∀ x∈ms,x.1.Ok w∧x.2=w.tal b x.1
theorem ofM_tal {w:Wg} (ho:w.Ok) (b:Bool):∀ (n:Nat) (ms:Memo) (p:Pl),p.Ok w→cnt p.left≤n→MemoG w b ms→(w.ofM b n ms p).1=w.talF b n p∧MemoG w b (w.ofM b n ms p).2
 | 0,ms,p,hp,h1,hg=>⟨rfl,hg⟩
 | n+1,ms,p,hp,h1,hg=>by
  simp only [Wg.ofM,Wg.talF]
  split
  ·exact ⟨rfl,hg⟩
  ·rename_i h0
   have hc:=cnt_le (hp.lt64 ho)
   have hf:w.talF b (n+1) p=w.tal b p:=tal_fuel ho b (n+1) 6 p hp h1 hc
   have e1:w.talF b (n+1) p=(w.plL b p).foldl (w.stT (w.talF b n) p) (0,0):=by simp only [Wg.talF,if_neg h0]
   rw [e1] at hf
   split
   ·rename_i t ht
    have:=(hg _ (lookP_mem ht)).2
    simp only at this
    rw [this]
    exact ⟨hf.symm,hg⟩
   ·have key:∀ (xs:List Pc) (st:Memo×(Int×Int)),xs ⊆ w.plL b p→MemoG w b st.1→(xs.foldl (w.stp (w.ofM b n) p) st).2=xs.foldl (w.stT (w.talF b n) p) st.2∧MemoG w b (xs.foldl (w.stp (w.ofM b n) p) st).1:=by
     intro xs
     induction xs with
     | nil=>intro st _ h;exact ⟨rfl,h⟩
     | cons x r ih =>
      intro st hx h
      have hxm:=hx (List.mem_cons_self ..)
      obtain ⟨g1,g2⟩:=zBd ho hp hxm
      obtain ⟨i1,i2⟩:=ofM_tal ho b n st.1 (p.next x) g1 (by omega) h
      rw [List.foldl_cons,List.foldl_cons]
      have e:(w.stp (w.ofM b n) p st x).2=w.stT (w.talF b n) p st.2 x:=by simp only [Wg.stp,Wg.stT,i1]
      have:=ih (w.stp (w.ofM b n) p st x) (fun y hy=>hx (List.mem_cons_of_mem _ hy)) i2
      rw [e] at this
      exact this
    obtain ⟨k1,k2⟩:=key (w.plL b p) (ms,(0,0)) (fun x hx=>hx) hg
    refine ⟨k1,fun x hx=>?_⟩
    rcases putP_mem hx with rfl | hx
    ·exact ⟨hp,by simp only;rw [k1];exact hf⟩
    ·exact k2 x hx
theorem memG_nil (w:Wg) (b:Bool):MemoG w b []:=fun x hx=>by cases hx
theorem tal_bd {w:Wg} (ho:w.Ok) (b:Bool) {p:Pl} (hp:p.Ok w):bdT (cnt p.left) (w.tal b p):=by
 have hc:=cnt_le (hp.lt64 ho)
 have h1:=(ofM_bd ho b 6 [] p hp hc (fun x hx=>by cases hx)).1
 rwa [(ofM_tal ho b 6 [] p hp hc (memG_nil w b)).1] at h1
theorem MemoG.ok {w:Wg} (ho:w.Ok) {b:Bool} {ms:Memo} (h:MemoG w b ms):MemoOk ms:=fun x hx=>by
 obtain ⟨h1,h2⟩:=h x hx
 rw [h2]
 exact tal_bd ho b h1
theorem of_all {w:Wg} {b:Bool} (ho:w.Ok) {k k1 k2 k3 l m:Nat} {vb va:AV}:∀ n,OfOk w b k k1 k2 k3 l m vb va n
 | 0=>fun H ms p hT hp hc hm=>of_zero 0 hT ((cnt_zero (hp.lt64 ho)).1 (by omega))
 | n+1=>fun H ms p hT hp hc hm=>by
  by_cases h0:p.left=0
  ·exact of_zero (n+1) hT h0
  ·cases hl:lookP p ms with
   | some t=>exact of_kept n hT h0 hl
   | none=>exact of_new ho n (of_all ho n) hT hp hc hm h0 hl
def Wg.kp (w:Wg) (b:Bool) (ms:Memo) (p:Pl):Memo:=(w.ofM b 6 ms p).2
theorem kp_g {w:Wg} (ho:w.Ok) {b:Bool} {ms:Memo} (hg:MemoG w b ms) {p:Pl} (hp:p.Ok w):MemoG w b (w.kp b ms p):=(ofM_tal ho b 6 ms p hp (cnt_le (hp.lt64 ho)) hg).2
theorem of_tal {w:Wg} {b:Bool} (ho:w.Ok) {k k1 k2 k3 l m:Nat} {vb va:AV} {ms:Memo} {p:Pl} (hT:TlAt H k k1 k2 k3 l m w b vb va ms) (hp:p.Ok w) (hg:MemoG w b ms) :
  zA9 cfg0 zA2 false 76 [p.av,.ptr k1 0,.ptr k2 0,.ptr k3 0] H none=some ⟨.ret (tlA (w.tal b p)),H.set k (.map 112 (kM (w.kp b ms p))),none⟩:=by
 have hc:=cnt_le (hp.lt64 ho)
 have h1:=of_all ho (k:=k) (k1:=k1) (k2:=k2) (k3:=k3) (l:=l) (m:=m) (vb:=vb) (va:=va) 6 H ms p hT hp hc (hg.ok ho)
 rw [(ofM_tal ho b 6 ms p hp hc hg).1] at h1
 exact h1
def tlG (n l:Nat):Heap:=[.box (.ptr l 0),.map 112 [],.box (.map (n+1)),.box (.func (.func 76) [] [.ptr (n+2) 0,.ptr n 0,.ptr (n+3) 0])]
theorem wr_tallies (l:Nat) (H:Heap):zA9 cfg0 zA2 false 49 [.ptr l 0] H none=some ⟨.ret (.func (.func 76) [] [.ptr (H.length+2) 0,.ptr H.length 0,.ptr (H.length+3) 0]),H++tlG H.length l,none⟩:=by
 simp only [tlG]
 refine (zA1 fn49 rfl (by simp [Tryz.f49])).trans ?_
 simp -implicitDefEqProofs (maxSteps:=1000000) (disch:=first|rfl|omega|assumption) only [go_sem,ltT,ltF,leT]
 done
theorem tlG_at {l m:Nat} {w:Wg} {b:Bool} {vb va:AV} (h:ShAt H l m w b vb va):TlAt (H++tlG H.length l) (H.length+1) (H.length+2) H.length (H.length+3) l m w b vb va [] where
 c1:=by rw [tlG,zAi 2];rfl
 mp:=by rw [tlG,zAi 1];rfl
 c2:=by
  have:=zAi (H:=H) (G:=tlG H.length l) 0
  rw [Nat.add_zero] at this
  rw [this];rfl
 c3:=by rw [tlG,zAi 3];rfl
 sh:=h.app _
 nm:=by have:=(List.getElem?_eq_some_iff.1 h.map).1;omega
theorem start_ok {w:Wg} {s:Nat} (hs:s<2^w.bs.length):(⟨s,pc0,false⟩:Pl).Ok w:=⟨hs,fun h=>by cases h⟩
theorem wr_can {l m:Nat} {w:Wg} {b:Bool} {vb va:AV} (h:ShAt H l m w b vb va) (ho:w.Ok) {s:Nat} (hs:s<2^w.bs.length) :
  zA9 cfg0 zA2 false 36 [.ptr l 0,U s] H none=some ⟨.ret (.bool (decide (0<(w.tal b ⟨s,pc0,false⟩).1))),H,none⟩:=by
 have hT:=fun G=>wr_tallies l G
 have hO:=of_tal ho (tlG_at h) (start_ok hs) (memG_nil w b)
 simp only [Pl.av,tlA,tlG,pc0] at hO hT ⊢
 refine (zA1 fn36 rfl (by simp [Tryz.f36])).trans ?_
 simp -implicitDefEqProofs (maxSteps:=1000000) (disch:=first|rfl|omega|assumption) only [go_sem,ltT,ltF,leT,hT,hO]
 rfl
def Wg.full (w:Wg):Pl:=⟨2^w.bs.length-1,pc0,false⟩
theorem full_ok (w:Wg):w.full.Ok w:=start_ok (by have:=Nat.pow_pos (n:=w.bs.length) (show 0<2 by omega);omega)
theorem full_lt (w:Wg):2^w.bs.length-1<2^w.bs.length:=by have:=Nat.pow_pos (n:=w.bs.length) (show 0<2 by omega);omega
def Wg.count (w:Wg):Int×Int:=if w.valid then ((w.tal false w.full).1,0) else (0,1)
theorem wr_openA {w:Wg} {vb va:AV} (h:WgAt H w vb va) (hl:w.bs.length≤1000∧w.ps.length≤1000) (hv:w.valid=true) :
  zA9 cfg0 zA2 false 34 [.agg [vb,va],.func (.func 35) [] []] H none=some ⟨.ret (.ptr (H.length+2) 0),H++opG w vb va H.length,none⟩:=by
 have:=wr_open h hl (.func 35) [] (by simp [AV.lt,ltL,fnLt]) true (fun _ b0=>by rw [callVL_func];exact wr_always _ _)
 rw [hv] at this
 exact this
theorem wr_openX {w:Wg} {vb va:AV} (h:WgAt H w vb va) (hl:w.bs.length≤1000∧w.ps.length≤1000) (hv:w.valid=false) :
  zA9 cfg0 zA2 false 34 [.agg [vb,va],.func (.func 35) [] []] H none=some ⟨.pan (.iface 152 (.agg [I 1])),H,none⟩:=by
 have:=wr_open h hl (.func 35) [] (by simp [AV.lt,ltL,fnLt]) true (fun _ b0=>by rw [callVL_func];exact wr_always _ _)
 rw [hv] at this
 exact this
def Wg.can (w:Wg) (b:Bool):Bool:=decide (0<(w.tal b w.full).1)
def Wg.hope (w:Wg):Int×Int:=if w.valid then (if w.can false then (2,0) else if w.can true then (1,0) else (0,0)) else (0,1)
theorem wr_Hope {w:Wg} {vb va:AV} (h:WgAt H w vb va) (hl:w.bs.length≤1000∧w.ps.length≤1000) :
  zA9 cfg0 zA2 false 11 [.agg [vb,va]] H none=some ⟨.ret (.tup [I w.hope.1,I w.hope.2]),H,none⟩:=by
 have s1:=h.bs.scal
 have s2:=h.ps.scal
 have hN:=fun G=>wd_Hopen (H.length+1) G
 have hD:=fun (e:Int) (a:AO) (G:Heap)=>wd_Hopes (H.length+1) e 0 (H++(a::.box (I 0)::G)) (by rw [zAi 1];rfl)
 simp only [Wg.hope]
 cases hv:w.valid
 ·have hO:=wr_openX (h.app [.box (.agg [vb,va]),.box (I 0)]) hl hv
  simp only [Bool.false_eq_true,if_false]
  refine (zA1 fn11 rfl (by simp [Tryz.f11])).trans ?_
  simp -implicitDefEqProofs (maxSteps:=1000000) (disch:=first|rfl|omega|assumption) only [go_sem,ltT,ltF,leT,s1,s2,hO,hD]
  done
 ·have ho:=w.valid_iff.1 hv
  have hO:=wr_openA (h.app [.box (.agg [vb,va]),.box (I 0)]) hl hv
  have hS:=opG_in (H:=H) (G0:=[.box (.agg [vb,va]),.box (I 0)]) (n:=H.length+2) (by simp) h
  have hA:=fun G=>wr_all (hS G) ho.n.2
  have hC:=fun G=>wr_can (hS G) ho (full_lt w)
  have hIn:=wr_in (hS []) true
  have hS2:ShAt (H++([.box (.agg [vb,va]),.box (I 0)]++(opG w vb va (H.length+2)++[.box (.agg (shC vb va (fcsN w.b) (.iface 98 (.agg [I 1])) (H.length+3)))]))) (H.length+5) (H.length+3) w true vb va :=
   ⟨by rw [zAi 5];rfl,(hS _).map,(hS _).wat⟩
  have hC2:=wr_can hS2 ho (full_lt w)
  have hO1:=fun G=>wr_optimist G
  have e30:=zBv w.b
  have e1:w.can false=decide (0<(w.tal false ⟨2^w.bs.length-1,pc0,false⟩).1):=rfl
  have e2:w.can true=decide (0<(w.tal true ⟨2^w.bs.length-1,pc0,false⟩).1):=rfl
  rw [← e1] at hC
  rw [← e2] at hC2
  simp only [if_true]
  simp only [opG,Pl.av,tlA,pc0,List.length_append,List.length_cons,List.length_nil,Nat.zero_add,Nat.reduceAdd,Nat.add_assoc,List.append_assoc,List.cons_append,List.nil_append,List.append_nil,show vwA true=.iface 98 (.agg [I 1]) from rfl] at hO hA hC hC2 hIn ⊢
  cases c1:w.can false
  ·simp only [c1,Bool.false_eq_true,if_false] at hC ⊢
   cases c2:w.can true
   ·simp only [c2,Bool.false_eq_true,if_false] at hC2 ⊢
    refine (zA1 fn11 rfl (by simp [Tryz.f11])).trans ?_
    simp -implicitDefEqProofs (maxSteps:=1000000) (disch:=first|rfl|omega|assumption) only [go_sem,ltT,ltF,leT,s1,s2,hO,hN]
    simp -implicitDefEqProofs (maxSteps:=1000000) (disch:=first|rfl|omega|assumption) only [go_sem,ltT,ltF,leT,s1,s2,hO,hN,hA,hC]
    rw [zAa];rotate_left;kernel_rfl
    simp -implicitDefEqProofs (maxSteps:=1000000) (disch:=first|rfl|omega|assumption) only [go_sem,ltT,ltF,leT,s1,s2,hO,hN,hA,hC,hC2,hO1,hIn]
    done
   ·simp only [c2,if_true] at hC2 ⊢
    refine (zA1 fn11 rfl (by simp [Tryz.f11])).trans ?_
    simp -implicitDefEqProofs (maxSteps:=1000000) (disch:=first|rfl|omega|assumption) only [go_sem,ltT,ltF,leT,s1,s2,hO,hN]
    simp -implicitDefEqProofs (maxSteps:=1000000) (disch:=first|rfl|omega|assumption) only [go_sem,ltT,ltF,leT,s1,s2,hO,hN,hA,hC]
    rw [zAa];rotate_left;kernel_rfl
    simp -implicitDefEqProofs (maxSteps:=1000000) (disch:=first|rfl|omega|assumption) only [go_sem,ltT,ltF,leT,s1,s2,hO,hN,hA,hC,hC2,hO1,hIn]
    done
  ·simp only [c1,if_true] at hC ⊢
   refine (zA1 fn11 rfl (by simp [Tryz.f11])).trans ?_
   simp -implicitDefEqProofs (maxSteps:=1000000) (disch:=first|rfl|omega|assumption) only [go_sem,ltT,ltF,leT,s1,s2,hO,hN]
   simp -implicitDefEqProofs (maxSteps:=1000000) (disch:=first|rfl|omega|assumption) only [go_sem,ltT,ltF,leT,s1,s2,hO,hN,hA,hC]
   done
theorem cg2 {a:AO} {l:Heap} {x y n:Nat}:(a::l)[x+(y+(n+1))]? = l[x+(y+n)]? := by
 rw [show x+(y+(n+1))=(x+(y+n))+1 by omega,List.getElem?_cons_succ]
theorem ct2 {a:AO} {l:Heap} {x y n:Nat}:List.take (x+(y+(n+1))) (a::l)=a::List.take (x+(y+n)) l:=by
 rw [show x+(y+(n+1))=(x+(y+n))+1 by omega,List.take_succ_cons]
theorem cs2 {a o:AO} {l:Heap} {x y n:Nat}:(a::l).set (x+(y+(n+1))) o=a::l.set (x+(y+n)) o:=by
 rw [show x+(y+(n+1))=(x+(y+n))+1 by omega,List.set_cons_succ]
def DOk (A:Nat) (G:Heap):Nat→List ADefer→Prop
 | _,[]=>True
 | N,.collected l::r=>∃ i,l=A+i∧i<N∧G[i]? = some .dfr∧DOk A G i r
 | _,.fn ..::_=>False
theorem DOk.app {A:Nat} {G:Heap} (G2:Heap):∀ {N M:Nat} {D:List ADefer},N≤M→DOk A G N D→DOk A (G++G2) M D
 | _,_,[],_,_=>trivial
 | N,M,.collected l::r,h,hd=>by
  obtain ⟨i,h1,h2,h3,h4⟩:=hd
  exact ⟨i,h1,by omega,by rw [List.getElem?_append_left (List.getElem?_eq_some_iff.1 h3).1];exact h3,DOk.app G2 (Nat.le_refl i) h4⟩
 | _,_,.fn ..::_,_,hd=>hd.elim
theorem DOk.set {A:Nat} {G:Heap} {o:AO} {k:Nat}:∀ {N:Nat} {D:List ADefer},N≤k→DOk A G N D→DOk A (G.set k o) N D
 | _,[],_,_=>trivial
 | N,.collected l::r,h,hd=>by
  obtain ⟨i,h1,h2,h3,h4⟩:=hd
  exact ⟨i,h1,h2,by rw [List.getElem?_set_ne (by omega)];exact h3,DOk.set (by omega) h4⟩
 | _,.fn ..::_,_,hd=>hd.elim
theorem unw_coll {C:Cfg} {P:Program} {F:FI} {m:Option (AV×Bool)} {e:Env} {pn:Option (AV×Bool)} {A:Heap} {r:List ADefer}:∀ (D:List ADefer) (N:Nat) (G:Heap),DOk A.length G N D→∃ G',unwL C P F m ⟨e,D++r,A++G,pn⟩=unwL C P F m ⟨e,r,A++G',pn⟩
 | [],_,G,_=>⟨G,rfl⟩
 | .collected l::D,N,G,hd=>by
  obtain ⟨i,rfl,h2,h3,h4⟩:=hd
  obtain ⟨G',h5⟩:=unw_coll D i (G.set i .dead) (h4.set (Nat.le_refl i))
  refine ⟨G',?_⟩
  rw [← h5,List.cons_append,unwL_collected,zAi,h3]
  simp only
  rw [set_at']
 | .fn ..::_,_,_,hd=>hd.elim
theorem unw_fin {C:Cfg} {P:Program} {F:FI} {m:Option (AV×Bool)} {e:Env} {pn:Option (AV×Bool)} {r:List ADefer} {D:List ADefer} {N:Nat} {G:Heap} {o0 o1 o2 o3 o4 o5 o6 o7 o8 o9 o10 o11 o12 o13:AO} {f:Done→Done} {R:Option Done} (hD:DOk (H.length+14) G N D) (h:∀ G',Option.map f (unwL C P F m ⟨e,r,H++(o0::o1::o2::o3::o4::o5::o6::o7::o8::o9::o10::o11::o12::o13::G'),pn⟩)=R):Option.map f (unwL C P F m ⟨e,D++r,H++(o0::o1::o2::o3::o4::o5::o6::o7::o8::o9::o10::o11::o12::o13::G),pn⟩)=R:=by
 have hl:(H++[o0,o1,o2,o3,o4,o5,o6,o7,o8,o9,o10,o11,o12,o13]).length=H.length+14:=by simp
 obtain ⟨G',h1⟩:=unw_coll (C:=C) (P:=P) (F:=F) (m:=m) (e:=e) (pn:=pn) (A:=H++[o0,o1,o2,o3,o4,o5,o6,o7,o8,o9,o10,o11,o12,o13]) (r:=r) D N G (by rw [hl];exact hD)
 simp only [List.append_assoc,List.cons_append,List.nil_append] at h1
 rw [h1]
 exact h G'
def Wg.fits (w:Wg) (p:Pl) (x:Pc):Bool:=decide (0<(w.tal false (p.next x)).1)&&((w.tal false (p.next x)).2+w.film p x==(w.tal false p).2)
def Wg.bestX (w:Wg) (p:Pl):Option Pc:=(w.plL false p).find? (w.fits p)
def Wg.bestL (w:Wg):Nat→Pl→List Pc
 | 0,_=>[]
 | q+1,p=>match w.bestX p with
  | some x=>x::w.bestL q (p.next x)
  | none=>[]
theorem stT_get (w:Wg) (f:Pl→Int×Int) (p:Pl) (hf:∀ x,0≤(f (p.next x)).1):∀ (xs:List Pc) (st:Int×Int),0≤st.1→0<(xs.foldl (w.stT f p) st).1→(0<st.1∧(xs.foldl (w.stT f p) st).2=st.2)∨∃ x∈xs,0<(f (p.next x)).1∧(f (p.next x)).2+w.film p x=(xs.foldl (w.stT f p) st).2
 | [],st,h0,h=>.inl ⟨h,rfl⟩
 | x::r,st,h0,h=>by
  rw [List.foldl_cons] at h ⊢
  have hx:=hf x
  have h1:0≤(w.stT f p st x).1:=by
   simp only [Wg.stT];split
   ·exact h0
   ·simp only;omega
  rcases stT_get w f p hf r _ h1 h with ⟨a,b⟩ | ⟨y,hy,a,b⟩
  ·rw [b]
   simp only [Wg.stT] at a ⊢
   by_cases c:(f (p.next x)).1=0
   ·rw [if_pos c] at a ⊢
    exact .inl ⟨a,rfl⟩
   ·rw [if_neg c] at a ⊢
    simp only
    by_cases d:st.1=0∨(f (p.next x)).2+w.film p x<st.2
    ·rw [if_pos d]
     exact .inr ⟨x,List.mem_cons_self ..,by omega,rfl⟩
    ·rw [if_neg d]
     exact .inl ⟨by omega,rfl⟩
  ·exact .inr ⟨y,List.mem_cons_of_mem _ hy,a,b⟩
theorem talF_nn (w:Wg) (b:Bool):∀ (n:Nat) (p:Pl),0≤(w.talF b n p).1
 | 0,_=>by simp [Wg.talF]
 | n+1,p=>by
  have key:∀ (xs:List Pc) (st:Int×Int),0≤st.1→0≤(xs.foldl (w.stT (w.talF b n) p) st).1:=by
   intro xs
   induction xs with
   | nil=>intro st h;exact h
   | cons x r ih =>
    intro st h
    rw [List.foldl_cons]
    refine ih _ ?_
    have:=talF_nn w b n (p.next x)
    simp only [Wg.stT];split
    ·exact h
    ·simp only;omega
  simp only [Wg.talF]
  split
  ·simp
  ·exact key _ _ (by simp)
theorem bestX_some {w:Wg} (ho:w.Ok) {p:Pl} (hp:p.Ok w) (h0:p.left≠0) (ht:0<(w.tal false p).1):∃ x,w.bestX p=some x∧x∈w.plL false p∧0<(w.tal false (p.next x)).1:=by
 have e:w.tal false p=(w.plL false p).foldl (w.stT (w.talF false 5) p) (0,0):=by
  show w.talF false (5+1) p=_
  simp only [Wg.talF,if_neg h0]
 rw [e] at ht
 rcases stT_get w (w.talF false 5) p (fun x=>talF_nn w false 5 _) _ _ (by simp) ht with ⟨a,_⟩ | ⟨x,hx,a,b⟩
 ·simp at a
 ·rw [← e] at b
  obtain ⟨g1,g2⟩:=zBd ho hp hx
  have hc:=cnt_le (hp.lt64 ho)
  have e2:w.talF false 5 (p.next x)=w.tal false (p.next x):=tal_fuel ho false 5 6 _ g1 (by omega) (by omega)
  rw [e2] at a b
  cases hb:w.bestX p with
  | none =>
   have:=List.find?_eq_none.1 hb x hx
   simp only [Wg.fits,b,beq_self_eq_true,Bool.and_true,decide_eq_true_eq] at this
   exact absurd a this
  | some y =>
   refine ⟨y,rfl,List.mem_of_find?_eq_some hb,?_⟩
   have:=List.find?_some hb
   simp only [Wg.fits,Bool.and_eq_true,decide_eq_true_eq] at this
   exact this.1
def Wg.stB (w:Wg) (p:Pl) (st:Memo×Pc) (x:Pc):(Memo×Pc)×Bool:=((w.kp false st.1 (p.next x),x),!w.fits p x)
theorem itB_find {w:Wg} (ho:w.Ok) {p:Pl} (hp:p.Ok w):∀ (xs:List Pc) (st:Memo×Pc) (x:Pc),xs ⊆ w.plL false p→MemoG w false st.1→xs.find? (w.fits p)=some x→∃ ms',MemoG w false ms'∧itP (w.stB p) st xs=((ms',x),false)
 | [],st,x,_,_,h=>by cases h
 | y::r,st,x,hs,hg,h=>by
  have hy:=hs (List.mem_cons_self ..)
  have hk:=kp_g ho hg (zBd ho hp hy).1
  rw [List.find?_cons] at h
  cases hf:w.fits p y
  ·rw [hf] at h
   obtain ⟨ms',h1,h2⟩:=itB_find ho hp r (w.kp false st.1 (p.next y),y) x (fun z hz=>hs (List.mem_cons_of_mem _ hz)) hk h
   refine ⟨ms',h1,?_⟩
   simp only [itP,Wg.stB,hf,Bool.not_false,if_true]
   exact h2
  ·rw [hf] at h
   cases h
   refine ⟨_,hk,?_⟩
   simp only [itP,Wg.stB,hf,Bool.not_true,Bool.false_eq_true,if_false]
theorem best_at {w:Wg} {vb va:AV} (h:WgAt H w vb va) (ms:Memo) (p:Pl) (acc:List Pc) (G:Heap):TlAt (H++(.box (.agg [vb,va])::.box (I 0)::.box (.agg [vb,va])::.map 66 (apM w.ps)::.box (.agg (shC vb va (fcsN w.b) (vwA false) (H.length+3)))::.box (.ptr (H.length+4) 0)::.box (.func (.func 76) [] [.ptr (H.length+10) 0,.ptr (H.length+8) 0,.ptr (H.length+11) 0])::.box (p).av::.box (.ptr (H.length+4) 0)::.map 112 (kM ms)::.box (.map (H.length+9))::.box (.func (.func 76) [] [.ptr (H.length+10) 0,.ptr (H.length+8) 0,.ptr (H.length+11) 0])::.grow 2 ((acc).map Pc.av)::.box (.gsl (H.length+12) (acc).length)::G)) (H.length+9) (H.length+10) (H.length+8) (H.length+11) (H.length+4) (H.length+3) w false vb va ms where
 c1:=by rw [zAi 10];rfl
 mp:=by rw [zAi 9];rfl
 c2:=by rw [zAi 8];rfl
 c3:=by rw [zAi 11];rfl
 sh:=⟨by rw [zAi 4];rfl,by rw [zAi 3];rfl,h.app _⟩
 nm:=by omega
theorem best_of {w:Wg} {vb va:AV} (h:WgAt H w vb va) (ho:w.Ok) {ms:Memo} (hg:MemoG w false ms) (p:Pl) (acc:List Pc) {p':Pl} (hp:p'.Ok w) (G:Heap) :
  zA9 cfg0 zA2 false 76 [p'.av,.ptr (H.length+10) 0,.ptr (H.length+8) 0,.ptr (H.length+11) 0] (H++(.box (.agg [vb,va])::.box (I 0)::.box (.agg [vb,va])::.map 66 (apM w.ps)::.box (.agg (shC vb va (fcsN w.b) (vwA false) (H.length+3)))::.box (.ptr (H.length+4) 0)::.box (.func (.func 76) [] [.ptr (H.length+10) 0,.ptr (H.length+8) 0,.ptr (H.length+11) 0])::.box (p).av::.box (.ptr (H.length+4) 0)::.map 112 (kM ms)::.box (.map (H.length+9))::.box (.func (.func 76) [] [.ptr (H.length+10) 0,.ptr (H.length+8) 0,.ptr (H.length+11) 0])::.grow 2 ((acc).map Pc.av)::.box (.gsl (H.length+12) (acc).length)::G)) none=some ⟨.ret (tlA (w.tal false p')),H++(.box (.agg [vb,va])::.box (I 0)::.box (.agg [vb,va])::.map 66 (apM w.ps)::.box (.agg (shC vb va (fcsN w.b) (vwA false) (H.length+3)))::.box (.ptr (H.length+4) 0)::.box (.func (.func 76) [] [.ptr (H.length+10) 0,.ptr (H.length+8) 0,.ptr (H.length+11) 0])::.box (p).av::.box (.ptr (H.length+4) 0)::.map 112 (kM (w.kp false ms p'))::.box (.map (H.length+9))::.box (.func (.func 76) [] [.ptr (H.length+10) 0,.ptr (H.length+8) 0,.ptr (H.length+11) 0])::.grow 2 ((acc).map Pc.av)::.box (.gsl (H.length+12) (acc).length)::G),none⟩:=by
 rw [of_tal ho (best_at h ms p acc G) hp hg,set_at' 9]
 rfl
theorem best_film {w:Wg} {vb va:AV} (h:WgAt H w vb va) (ho:w.Ok) {ms:Memo} (p:Pl) (hp:p.Ok w) (acc:List Pc) {x:Pc} (hx:w.pok x) (G:Heap) :
  zA9 cfg0 zA2 false 51 [.ptr (H.length+4) 0,p.av,x.av] (H++(.box (.agg [vb,va])::.box (I 0)::.box (.agg [vb,va])::.map 66 (apM w.ps)::.box (.agg (shC vb va (fcsN w.b) (vwA false) (H.length+3)))::.box (.ptr (H.length+4) 0)::.box (.func (.func 76) [] [.ptr (H.length+10) 0,.ptr (H.length+8) 0,.ptr (H.length+11) 0])::.box (p).av::.box (.ptr (H.length+4) 0)::.map 112 (kM ms)::.box (.map (H.length+9))::.box (.func (.func 76) [] [.ptr (H.length+10) 0,.ptr (H.length+8) 0,.ptr (H.length+11) 0])::.grow 2 ((acc).map Pc.av)::.box (.gsl (H.length+12) (acc).length)::G)) none=some ⟨.ret (I (w.film p x)),H++(.box (.agg [vb,va])::.box (I 0)::.box (.agg [vb,va])::.map 66 (apM w.ps)::.box (.agg (shC vb va (fcsN w.b) (vwA false) (H.length+3)))::.box (.ptr (H.length+4) 0)::.box (.func (.func 76) [] [.ptr (H.length+10) 0,.ptr (H.length+8) 0,.ptr (H.length+11) 0])::.box (p).av::.box (.ptr (H.length+4) 0)::.map 112 (kM ms)::.box (.map (H.length+9))::.box (.func (.func 76) [] [.ptr (H.length+10) 0,.ptr (H.length+8) 0,.ptr (H.length+11) 0])::.grow 2 ((acc).map Pc.av)::.box (.gsl (H.length+12) (acc).length)::G),none⟩:=wr_film (best_at h ms p acc G).sh ho hp.top hx
theorem best_round {b0:Nat} {w:Wg} {vb va:AV} (h:WgAt H w vb va) (ho:w.Ok) {E:Env} (k5:E.get 5=.ptr (H.length+5) 0) (k6:E.get 6=.ptr (H.length+6) 0) (k7:E.get 7=.ptr (H.length+7) 0) (k9:E.get 9=.ptr (H.length+13) 0) (G:Heap) {p:Pl} (hp:p.Ok w) (acc:List Pc) (hl:acc.length≤6) {st:Memo×Pc} {x:Pc} (G2:Heap) (hq:MemoG w false st.1) (hx:x∈w.plL false p) :
  zB1 cfg0 zA2 b0 false (.yield (H.length+(G.length+18))) [x.av,(p.next x).av] [] ((H++(.box (.agg [vb,va])::.box (I 0)::.box (.agg [vb,va])::.map 66 (apM w.ps)::.box (.agg (shC vb va (fcsN w.b) (vwA false) (H.length+3)))::.box (.ptr (H.length+4) 0)::.box (.func (.func 76) [] [.ptr (H.length+10) 0,.ptr (H.length+8) 0,.ptr (H.length+11) 0])::.box (p).av::.box (.ptr (H.length+4) 0)::.map 112 (kM st.1)::.box (.map (H.length+9))::.box (.func (.func 76) [] [.ptr (H.length+10) 0,.ptr (H.length+8) 0,.ptr (H.length+11) 0])::.grow 2 ((acc).map Pc.av)::.box (.gsl (H.length+12) (acc).length)::(G++[.box (I (w.tal false p).2),.box (.ptr (H.length+4) 0),.box (p).av,.dfr,.loop (zAn Tryz.f14 14 0 ((41,.func (.func 77) [] [.ptr (H.length+(G.length+15)) 0,.ptr (H.length+(G.length+16)) 0])::(40,p.av)::(39,.ptr (H.length+4) 0)::(10,.ptr (H.length+(G.length+14)) 0)::(38,I (w.tal false p).2)::(37,tlA (w.tal false p))::(36,p.av)::(35,.func (.func 76) [] [.ptr (H.length+10) 0,.ptr (H.length+8) 0,.ptr (H.length+11) 0])::(34,.bool true)::(33,U p.left)::(32,.ptr (H.length+7) 0)::E) (H.length+(G.length+17)))])))++G2) none=some ⟨.ret (.bool (!w.fits p x)),(if (!w.fits p x)=true then (H++(.box (.agg [vb,va])::.box (I 0)::.box (.agg [vb,va])::.map 66 (apM w.ps)::.box (.agg (shC vb va (fcsN w.b) (vwA false) (H.length+3)))::.box (.ptr (H.length+4) 0)::.box (.func (.func 76) [] [.ptr (H.length+10) 0,.ptr (H.length+8) 0,.ptr (H.length+11) 0])::.box (p).av::.box (.ptr (H.length+4) 0)::.map 112 (kM (w.kp false st.1 (p.next x)))::.box (.map (H.length+9))::.box (.func (.func 76) [] [.ptr (H.length+10) 0,.ptr (H.length+8) 0,.ptr (H.length+11) 0])::.grow 2 ((acc).map Pc.av)::.box (.gsl (H.length+12) (acc).length)::(G++[.box (I (w.tal false p).2),.box (.ptr (H.length+4) 0),.box (p).av,.dfr,.loop (zAn Tryz.f14 14 0 ((41,.func (.func 77) [] [.ptr (H.length+(G.length+15)) 0,.ptr (H.length+(G.length+16)) 0])::(40,p.av)::(39,.ptr (H.length+4) 0)::(10,.ptr (H.length+(G.length+14)) 0)::(38,I (w.tal false p).2)::(37,tlA (w.tal false p))::(36,p.av)::(35,.func (.func 76) [] [.ptr (H.length+10) 0,.ptr (H.length+8) 0,.ptr (H.length+11) 0])::(34,.bool true)::(33,U p.left)::(32,.ptr (H.length+7) 0)::E) (H.length+(G.length+17)))]))) else (H++(.box (.agg [vb,va])::.box (I 0)::.box (.agg [vb,va])::.map 66 (apM w.ps)::.box (.agg (shC vb va (fcsN w.b) (vwA false) (H.length+3)))::.box (.ptr (H.length+4) 0)::.box (.func (.func 76) [] [.ptr (H.length+10) 0,.ptr (H.length+8) 0,.ptr (H.length+11) 0])::.box ((p.next x)).av::.box (.ptr (H.length+4) 0)::.map 112 (kM (w.kp false st.1 (p.next x)))::.box (.map (H.length+9))::.box (.func (.func 76) [] [.ptr (H.length+10) 0,.ptr (H.length+8) 0,.ptr (H.length+11) 0])::.grow 2 (((acc++[x])).map Pc.av)::.box (.gsl (H.length+12) ((acc++[x])).length)::(G++[.box (I (w.tal false p).2),.box (.ptr (H.length+4) 0),.box (p).av,.dfr,.loop { zAn Tryz.f14 14 0 ((41,.func (.func 77) [] [.ptr (H.length+(G.length+15)) 0,.ptr (H.length+(G.length+16)) 0])::(40,p.av)::(39,.ptr (H.length+4) 0)::(10,.ptr (H.length+(G.length+14)) 0)::(38,I (w.tal false p).2)::(37,tlA (w.tal false p))::(36,p.av)::(35,.func (.func 76) [] [.ptr (H.length+10) 0,.ptr (H.length+8) 0,.ptr (H.length+11) 0])::(34,.bool true)::(33,U p.left)::(32,.ptr (H.length+7) 0)::E) (H.length+(G.length+17)) with state:=.done,pending:=some (.exit 2) }]))))++G2,none⟩:=by
 obtain ⟨g1,g2⟩:=zBd ho hp hx
 have hxp:=(mem_plL hx).1
 have hO:=fun G'=>best_of h ho hq p acc g1 G'
 have hfi:=fun (ms':Memo) (G':Heap)=>best_film (ms:=ms') h ho p hp acc hxp G'
 obtain ⟨b1,b2,b3,b4⟩:=tal_bd ho false g1
 have b6:=cnt_le (g1.lt64 ho)
 have b7:(w.tal false (p.next x)).2≤60:=by omega
 obtain ⟨f1,f2⟩:=film_bd ho hp hxp
 have la:(acc.map Pc.av).length=acc.length:=List.length_map _
 have la2:(acc++[x]).length=acc.length+1:=by simp
 have hadd:∀ (o0 o1 o2 o3 o4 o5 o6 o7 o8 o9 o10 o11:AO) (G':Heap),addElem (H++(o0::o1::o2::o3::o4::o5::o6::o7::o8::o9::o10::o11::.grow 2 (acc.map Pc.av)::G')) 2 true (.gsl (H.length+12) acc.length) [x.av]=some (.gsl (H.length+12) (acc.length+1),H++(o0::o1::o2::o3::o4::o5::o6::o7::o8::o9::o10::o11::.grow 2 ((acc++[x]).map Pc.av)::G')):=by
  intro o0 o1 o2 o3 o4 o5 o6 o7 o8 o9 o10 o11 G'
  rw [add_gsl (xs:=acc.map Pc.av) (by rw [zAi];rfl) la rfl rfl (by simp;omega),set_at',List.map_append]
  rfl
 have hft:w.fits p x=(decide (0<(w.tal false (p.next x)).1)&&((w.tal false (p.next x)).2+w.film p x==(w.tal false p).2)):=rfl
 simp only [Pl.av,Pc.av,Pl.next,tlA] at hO hfi hadd b1 b2 b3 b4 b7 hft ⊢
 rw [hft]
 clear hft
 obtain ⟨t,ht⟩:∃ t,w.tal false ⟨p.left-2^x.b.toNat,x,true⟩=t:=⟨_,rfl⟩
 rw [ht] at hO b1 b2 b3 b4 b7
 simp only [ht]
 obtain ⟨t1,t2⟩:=t
 simp only at hO b1 b2 b3 b4 b7 ⊢
 by_cases c1:0<t1
 ·by_cases c2:t2+w.film p x=(w.tal false p).2
  ·have c3:(t2+w.film p x==(w.tal false p).2)=true:=by simp [c2]
   have c4:decide (0<t1)=true:=decide_eq_true c1
   simp only [c3,c4,Bool.and_self,Bool.not_true,Bool.false_eq_true,if_false]
   simp -implicitDefEqProofs (maxSteps:=1000000) (disch:=first|rfl|omega|assumption) only [go_sem,ltT,ltF,leT,zAn,zAm,List.nil_append,List.append_nil,List.cons_append,List.getElem?_cons_zero,List.getElem?_cons_succ,Tryz.f14,cg2,cs2,ct2,k5,k6,k7,k9,hO,c1]
   rw [zAa];rotate_left;kernel_rfl
   simp -implicitDefEqProofs (maxSteps:=1000000) (disch:=first|rfl|omega|assumption) only [go_sem,ltT,ltF,leT,zAn,zAm,List.nil_append,List.append_nil,List.cons_append,List.getElem?_cons_zero,List.getElem?_cons_succ,Tryz.f14,cg2,cs2,ct2,k5,k6,k7,k9,hO,hfi,hadd,la2,c1,c3]
   rw [zAa];rotate_left;kernel_rfl
   simp -implicitDefEqProofs (maxSteps:=1000000) (disch:=first|rfl|omega|assumption) only [go_sem,ltT,ltF,leT,zAn,zAm,List.nil_append,List.append_nil,List.cons_append,List.getElem?_cons_zero,List.getElem?_cons_succ,Tryz.f14,cg2,cs2,ct2,k5,k6,k7,k9,hO,hfi,hadd,la2,c1,c3]
   done
  ·have c3:(t2+w.film p x==(w.tal false p).2)=false:=by simp [c2]
   simp only [c3,Bool.and_false,Bool.not_false,if_true]
   simp -implicitDefEqProofs (maxSteps:=1000000) (disch:=first|rfl|omega|assumption) only [go_sem,ltT,ltF,leT,zAn,zAm,List.nil_append,List.append_nil,List.cons_append,List.getElem?_cons_zero,List.getElem?_cons_succ,Tryz.f14,cg2,cs2,ct2,k5,k6,k7,k9,hO,c1]
   rw [zAa];rotate_left;kernel_rfl
   simp -implicitDefEqProofs (maxSteps:=1000000) (disch:=first|rfl|omega|assumption) only [go_sem,ltT,ltF,leT,zAn,zAm,List.nil_append,List.append_nil,List.cons_append,List.getElem?_cons_zero,List.getElem?_cons_succ,Tryz.f14,cg2,cs2,ct2,k5,k6,k7,k9,hO,hfi,hadd,la2,c1,c3]
   done
 ·have c4:decide (0<t1)=false:=decide_eq_false c1
  simp only [c4,Bool.false_and,Bool.not_false,if_true]
  simp -implicitDefEqProofs (maxSteps:=1000000) (disch:=first|rfl|omega|assumption) only [go_sem,ltT,ltF,leT,zAn,zAm,List.nil_append,List.append_nil,List.cons_append,List.getElem?_cons_zero,List.getElem?_cons_succ,Tryz.f14,cg2,cs2,ct2,k5,k6,k7,k9,hO,c1]
  rw [zAa];rotate_left;kernel_rfl
  simp -implicitDefEqProofs (maxSteps:=1000000) (disch:=first|rfl|omega|assumption) only [go_sem,ltT,ltF,leT,zAn,zAm,List.nil_append,List.append_nil,List.cons_append,List.getElem?_cons_zero,List.getElem?_cons_succ,Tryz.f14,cg2,cs2,ct2,k5,k6,k7,k9,hO,hfi,c1]
  done
theorem best_loop {w:Wg} {vb va:AV} (h:WgAt H w vb va) (ho:w.Ok) (F:Int) (n:Nat) (hn:n≤6) (r:List Pc) :
  ∀ (q j:Nat),j+q=n→∀ (G:Heap),∀ (D:List ADefer),DOk (H.length+14) G G.length D→∀ (ms:Memo),∀ (p:Pl),∀ (acc:List Pc),p.Ok w→MemoG w false ms→cnt p.left=q→0<(w.tal false p).1→acc.length=j→acc++w.bestL q p=r→∀ E:Env,E.get 2=I 0→E.get 3=.sl true []→E.get 4=.ptr (H.length+1) 0→E.get 5=.ptr (H.length+5) 0→E.get 6=.ptr (H.length+6) 0→E.get 7=.ptr (H.length+7) 0→E.get 8=I F→E.get 9=.ptr (H.length+13) 0 →
  Option.map (zAd H.length) (zAe cfg0 zA2 ⟨14,none,false,H.length⟩ (zA5 Tryz.f14 7) ⟨E,D++[.fn (.func 48) [] [.ptr (H.length+1) 0]],H++(.box (.agg [vb,va])::.box (I 0)::.box (.agg [vb,va])::.map 66 (apM w.ps)::.box (.agg (shC vb va (fcsN w.b) (vwA false) (H.length+3)))::.box (.ptr (H.length+4) 0)::.box (.func (.func 76) [] [.ptr (H.length+10) 0,.ptr (H.length+8) 0,.ptr (H.length+11) 0])::.box (p).av::.box (.ptr (H.length+4) 0)::.map 112 (kM ms)::.box (.map (H.length+9))::.box (.func (.func 76) [] [.ptr (H.length+10) 0,.ptr (H.length+8) 0,.ptr (H.length+11) 0])::.grow 2 ((acc).map Pc.av)::.box (.gsl (H.length+12) (acc).length)::G),none⟩)=some ⟨.ret (.tup [I F,.sl false (r.map Pc.av),I 0]),H,none⟩:=by
 intro q
 have s1:=h.bs.scal
 have s2:=h.ps.scal
 have t1:=h.bs.ltn 14
 have t2:=h.ps.ltn 14
 have hN:=fun (G:Heap)=>wd_Bestn (H.length+1) G
 have hsl:ltL (H.length+14) (shC vb va (fcsN w.b) (vwA false) (H.length+3))=true:=by
  have:(AV.map (H.length+3)).lt (H.length+14)=true:=by simp [AV.lt]
  simp only [shC,ltL,t1,t2,fcsN,Bk.fcs,List.cons_append,List.nil_append,this,vwA]
  rfl
 have hml:zB7 (H.length+14) (apM w.ps)=true:=by
  have key:∀ (l:List Ap) (es:List (AV×AV)),zB7 (H.length+14) es=true→zB7 (H.length+14) (l.foldl apS es)=true:=by
   intro l
   induction l with
   | nil=>intro es h;exact h
   | cons a r ih=>intro es h;rw [List.foldl_cons];exact ih _ (put_lt rfl rfl _ (put_lt rfl rfl _ h))
  exact key _ [] rfl
 induction q with
 | zero =>
  intro j hj G D hD ms p acc hp hg hc ht hl hr E g2 g3 g4 g5 g6 g7 g8 g9
  have hk':¬ (j:Int)<((n:Nat):Int):=by omega
  simp only [Wg.bestL,List.append_nil] at hr
  subst hr
  have hl0:=(cnt_zero (hp.lt64 ho)).1 hc
  have m1:=kM_lt (H.length+14) ms
  have m2:ltL (H.length+14) (acc.map Pc.av)=true:=zAx (fun _=>rfl) acc
  have m3:ltL 0 (acc.map Pc.av)=true:=zAx (fun _=>rfl) acc
  have la:(acc.map Pc.av).length=acc.length:=List.length_map _
  obtain ⟨lf,⟨tb,tu⟩,sm⟩:=p
  simp only at hl0
  subst hl0
  simp only [Pl.av]
  simp only [zA6,zA4,zA5,zA7,zA3,↓reduceIte,Option.some.injEq,Nat.reduceEqDiff,reduceCtorEq,Tryz.f14]
  rw [zA0]
  simp -implicitDefEqProofs (maxSteps:=1000000) (disch:=first|rfl|omega|assumption) only [go_sem,g2,g3,g4,g5,g6,g7,g8,g9,ltT,ltF,leT,hk',s1,s2,t1,t2,hsl,hml,m1,m2,m3]
  rw [zAa];rotate_left;kernel_rfl
  simp -implicitDefEqProofs (maxSteps:=1000000) (disch:=first|rfl|omega|assumption) only [go_sem,g2,g3,g4,g5,g6,g7,g8,g9,ltT,ltF,leT,hk',s1,s2,t1,t2,hsl,hml,m1,m2,m3,hN,la]
  refine unw_fin hD (fun G'=>?_)
  simp -implicitDefEqProofs (maxSteps:=1000000) (disch:=first|rfl|omega|assumption) only [go_sem,g2,g3,g4,g5,g6,g7,g8,g9,ltT,ltF,leT,hk',s1,s2,t1,t2,hsl,hml,m1,m2,m3,hN,la]
  done
 | succ q ih =>
  intro j hj G D hD ms p acc hp hg hc ht hl hr E g2 g3 g4 g5 g6 g7 g8 g9
  have hk':(j:Int)<((n:Nat):Int):=by omega
  have hk2:j<n:=by omega
  have hl0:p.left≠0:=fun e=>by
   have:=(cnt_zero (hp.lt64 ho)).2 e
   omega
  have hlb:((p.left:Int) != 0)=true:=by simp;exact hl0
  have m1:=kM_lt (H.length+14) ms
  have m2:ltL (H.length+14) (acc.map Pc.av)=true:=zAx (fun _=>rfl) acc
  have m3:ltL 0 (acc.map Pc.av)=true:=zAx (fun _=>rfl) acc
  have la:(acc.map Pc.av).length=acc.length:=List.length_map _
  obtain ⟨x,hx1,hx2,hx3⟩:=bestX_some ho hp hl0 ht
  have hbl:w.bestL (q+1) p=x::w.bestL q (p.next x):=by simp only [Wg.bestL,hx1]
  rw [hbl] at hr
  obtain ⟨pn1,pn2⟩:=zBd ho hp hx2
  have hO1:=fun G=>best_of h ho hg p acc hp G
  have hNx:=fun G=>wr_next (H.length+4) p G
  obtain ⟨ms',hg',hit⟩:=itB_find ho hp (w.plL false p) (w.kp false ms p,pc0) x (fun z hz=>hz) (kp_g ho hg hp) hx1
  have hI:=nx_it ho (fun hh=>hp.top hh) (hp.lt64 ho) (l:=H.length+4) (m:=H.length+3) (b:=false) (vb:=vb) (va:=va) (p1:=H.length+(G.length+15)) (p2:=H.length+(G.length+16)) (N:=H.length+(G.length+19)) (y:=H.length+(G.length+18))
   (Hr:=fun st:Memo×Pc=>H++(.box (.agg [vb,va])::.box (I 0)::.box (.agg [vb,va])::.map 66 (apM w.ps)::.box (.agg (shC vb va (fcsN w.b) (vwA false) (H.length+3)))::.box (.ptr (H.length+4) 0)::.box (.func (.func 76) [] [.ptr (H.length+10) 0,.ptr (H.length+8) 0,.ptr (H.length+11) 0])::.box (p).av::.box (.ptr (H.length+4) 0)::.map 112 (kM st.1)::.box (.map (H.length+9))::.box (.func (.func 76) [] [.ptr (H.length+10) 0,.ptr (H.length+8) 0,.ptr (H.length+11) 0])::.grow 2 ((acc).map Pc.av)::.box (.gsl (H.length+12) (acc).length)::(G++[.box (I (w.tal false p).2),.box (.ptr (H.length+4) 0),.box (p).av,.dfr,.loop (zAn Tryz.f14 14 0 ((41,.func (.func 77) [] [.ptr (H.length+(G.length+15)) 0,.ptr (H.length+(G.length+16)) 0])::(40,p.av)::(39,.ptr (H.length+4) 0)::(10,.ptr (H.length+(G.length+14)) 0)::(38,I (w.tal false p).2)::(37,tlA (w.tal false p))::(36,p.av)::(35,.func (.func 76) [] [.ptr (H.length+10) 0,.ptr (H.length+8) 0,.ptr (H.length+11) 0])::(34,.bool true)::(33,U p.left)::(32,.ptr (H.length+7) 0)::E) (H.length+(G.length+17)))])))
   (Hd:=fun st:Memo×Pc=>H++(.box (.agg [vb,va])::.box (I 0)::.box (.agg [vb,va])::.map 66 (apM w.ps)::.box (.agg (shC vb va (fcsN w.b) (vwA false) (H.length+3)))::.box (.ptr (H.length+4) 0)::.box (.func (.func 76) [] [.ptr (H.length+10) 0,.ptr (H.length+8) 0,.ptr (H.length+11) 0])::.box ((p.next st.2)).av::.box (.ptr (H.length+4) 0)::.map 112 (kM st.1)::.box (.map (H.length+9))::.box (.func (.func 76) [] [.ptr (H.length+10) 0,.ptr (H.length+8) 0,.ptr (H.length+11) 0])::.grow 2 (((acc++[st.2])).map Pc.av)::.box (.gsl (H.length+12) ((acc++[st.2])).length)::(G++[.box (I (w.tal false p).2),.box (.ptr (H.length+4) 0),.box (p).av,.dfr,.loop { zAn Tryz.f14 14 0 ((41,.func (.func 77) [] [.ptr (H.length+(G.length+15)) 0,.ptr (H.length+(G.length+16)) 0])::(40,p.av)::(39,.ptr (H.length+4) 0)::(10,.ptr (H.length+(G.length+14)) 0)::(38,I (w.tal false p).2)::(37,tlA (w.tal false p))::(36,p.av)::(35,.func (.func 76) [] [.ptr (H.length+10) 0,.ptr (H.length+8) 0,.ptr (H.length+11) 0])::(34,.bool true)::(33,U p.left)::(32,.ptr (H.length+7) 0)::E) (H.length+(G.length+17)) with state:=.done,pending:=some (.exit 2) }])))
   (Q:=fun st=>MemoG w false st.1) (g:=w.stB p)
   ⟨fun st=>by simp,fun st=>by simp,fun st=>by rw [zAi];simp [List.getElem?_append_right],fun st=>by rw [zAi];simp [List.getElem?_append_right],fun st=>(best_at h st.1 p acc _).sh,fun st y hq hy=>kp_g ho hq (zBd ho hp hy).1,fun b0 st y G2 hq hy=>by
    have:=best_round (b0:=b0) h ho g5 g6 g7 g9 G hp acc (by omega) G2 hq hy
    simp only [Wg.stB]
    exact this⟩ (w.kp false ms p,pc0) (kp_g ho hg hp) _ rfl
  rw [hit] at hI
  simp only [Bool.false_eq_true,if_false] at hI
  have key:=fun (G':Heap) (D':List ADefer) (hD':DOk (H.length+14) G' G'.length D')=>ih (j+1) (by omega) G' D' hD' ms' (p.next x) (acc++[x]) pn1 hg' (by omega) hx3 (by simp;omega) (by rw [List.append_assoc];exact hr)
  have la2:(acc++[x]).length=acc.length+1:=by simp
  simp only [Pl.av,tlA,la2] at hO1 hNx hI key ⊢
  simp only [zA6,zA4,zA5,zA7,zA3,↓reduceIte,Option.some.injEq,Nat.reduceEqDiff,reduceCtorEq,Tryz.f14]
  rw [zA0]
  simp -implicitDefEqProofs (maxSteps:=1000000) (disch:=first|rfl|omega|assumption) only [go_sem,g2,g3,g4,g5,g6,g7,g8,g9,ltT,ltF,leT,hk',s1,s2,t1,t2,hsl,hml,m1,m2,m3,hlb,hO1,hNx]
  simp only [zAn,zAm,List.nil_append,List.append_nil,List.cons_append,List.getElem?_cons_zero,List.getElem?_cons_succ,Tryz.f14] at hI
  simp -implicitDefEqProofs (maxSteps:=1000000) (disch:=first|rfl|omega|assumption) only [go_sem,g2,g3,g4,g5,g6,g7,g8,g9,ltT,ltF,leT,hk',hI]
  have key2:=fun (o1 o2 o3 o5:AO)=>key (G++[o1,o2,o3,.dfr,o5]) (.collected (H.length+(G.length+17))::D) ⟨G.length+3,by omega,by simp,by simp,hD.app _ (by omega)⟩
  refine key2 _ _ _ _ _ ?_ ?_ ?_ ?_ ?_ ?_ ?_ ?_
  ·exact g2
  ·exact g3
  ·exact g4
  ·exact g5
  ·exact g6
  ·exact g7
  ·exact g8
  ·exact g9
theorem ref_Block {w:Wg} {vb va:AV} (h:WgAt H w vb va) (hl:w.bs.length≤1000) (x:Int):zA9 cfg0 zA2 false 21 [.agg [vb,va],I x] H none=some ⟨.ret (.bool (wi x 0 ((w.n:Int)-1))),H,none⟩:=by
 have s1:=h.bs.scal
 have s2:=h.ps.scal
 have n1:=h.bs.len
 have c1:=h.bs.cel
 rw [List.length_map] at n1
 refine (zA1 fn21 rfl (by simp [Tryz.f21])).trans ?_
 simp -implicitDefEqProofs (maxSteps:=1000000) (disch:=first|rfl|omega|assumption) only [go_sem,ltT,ltF,leT,s1,s2,n1,c1,ref_in]
end Go.Ab
