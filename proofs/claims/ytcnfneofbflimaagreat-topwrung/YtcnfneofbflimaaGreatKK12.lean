/- The blocks of a set alone. -/
import Derived.Test.YtcnfneofbflimaaGreatKK11
namespace Go.Ab
open Go.Proofs
set_option linter.unusedSimpArgs false
set_option linter.unusedVariables false
set_option maxRecDepth 100000
set_option maxHeartbeats 2000000
variable {H:Heap}
theorem on_loop2 {w:Wg} {vb va:AV} (h:WgAt H w vb va) (ho:w.Ok) {s:Nat} (hs:s<2^60) (o0:AO) (ho0:o0.lt (H.length+5)=true) (bs:List Bk) :
  ∀ (q j:Nat),j+q=w.ps.length→∀ (G:Heap),∀ (acc:List Ap),acc=((w.ps.take j).filter (inS s)).map (apR s)→∀ E:Env,E.get 1=I s→E.get 4=.ptr (H.length+1) 0→E.get 5=.map (H.length+2)→E.get 37=va→E.get 38=I w.ps.length→E.get 39=I j →
  Option.map (zAd H.length) (zAe cfg0 zA2 ⟨10,none,false,H.length⟩ (zA5 Tryz.f10 10) ⟨E,[],H++(o0::.box (.agg [.gsl (H.length+3) bs.length,.gsl (H.length+4) acc.length])::.map 3 (omM s w.bs.length)::.grow 8 (bs.map Bk.av)::.grow 2 (acc.map Ap.av)::G),none⟩)=some ⟨.ret (.agg [.sl false (bs.map Bk.av),.sl false (((w.ps.filter (inS s)).map (apR s)).map Ap.av)]),H,none⟩:=by
 intro q
 obtain ⟨a1,a2,a3,a4,a5⟩:=h.ps.fF (d:=ap0)
 have s2:=h.ps.scal
 have t2:=h.ps.ltn 5
 have m0:=omM_lt s (H.length+5) w.bs.length
 have m1:ltL 0 (bs.map Bk.av)=true:=zAx (fun _=>rfl) bs
 have m2:ltL H.length (bs.map Bk.av)=true:=zAx (fun _=>rfl) bs
 have l1:(bs.map Bk.av).length=bs.length:=List.length_map _
 have hnp:=ho.np
 induction q with
 | zero =>
  intro j hj G acc hacc E g1 g4 g5 g37 g38 g39
  have hk':¬ (j:Int)<((w.ps.length:Nat):Int):=by omega
  have ej:j=w.ps.length:=by omega
  rw [ej,List.take_length] at hacc
  rw [← hacc]
  have m3:ltL 0 (acc.map Ap.av)=true:=zAx (fun _=>rfl) acc
  have m4:ltL H.length (acc.map Ap.av)=true:=zAx (fun _=>rfl) acc
  have l2:(acc.map Ap.av).length=acc.length:=List.length_map _
  simp only [zA6,zA4,zA5,zA7,zA3,↓reduceIte,Option.some.injEq,Nat.reduceEqDiff,reduceCtorEq,Tryz.f10]
  rw [zA0]
  simp -implicitDefEqProofs (maxSteps:=1000000) (disch:=first|rfl|omega|assumption) only [go_sem,g1,g4,g5,g37,g38,g39,ltT,ltF,leT,hk',s2,t2,ho0,m0,m1,m2,m3,m4,l1,l2]
  done
 | succ q ih =>
  intro j hj G acc hacc E g1 g4 g5 g37 g38 g39
  have hk':(j:Int)<((w.ps.length:Nat):Int):=by omega
  have hk2:j<w.ps.length:=by omega
  have m3:ltL 0 (acc.map Ap.av)=true:=zAx (fun _=>rfl) acc
  obtain ⟨⟨xa,xb⟩,hxx⟩:∃ x,w.ps.getD j ap0=x:=⟨_,rfl⟩
  have hap:=ho.ap j (by omega)
  have hwa:w.a j=⟨xa,xb⟩:=hxx
  rw [hwa] at hap
  simp only [Wg.n] at hap
  obtain ⟨na,rfl⟩:=Int.eq_ofNat_of_zero_le hap.1
  obtain ⟨nb,rfl⟩:=Int.eq_ofNat_of_zero_le hap.2.2.1
  have h5:=ho.n.2
  simp only [Wg.n] at h5
  have hav:∀ a b:Int,(Ap.av ⟨a,b⟩).cells=[I a,I b]:=fun _ _=>rfl
  have htk:w.ps.take (j+1)=w.ps.take j++[⟨na,nb⟩]:=by
   rw [List.take_succ_eq_append_getElem (by omega),← hxx]
   simp [show j<w.ps.length by omega]
  have za:¬ (na:Int)<0:=by omega
  have zb:¬ (nb:Int)<0:=by omega
  have e1:=shrN (s:=s) (j:=na) (by omega)
  have e2:=bitI (s:=s) (j:=na) hs
  have e3:=and_one (s:=s) (j:=na)
  have f1:=shrN (s:=s) (j:=nb) (by omega)
  have f2:=bitI (s:=s) (j:=nb) hs
  have f3:=and_one (s:=s) (j:=nb)
  have hin:inS s ⟨na,nb⟩=(s.testBit na&&s.testBit nb):=rfl
  have key:=fun (G:Heap) (acc':List Ap) (h':acc'=((w.ps.take (j+1)).filter (inS s)).map (apR s))=>ih (j+1) (by omega) G acc' h'
  rw [htk,List.filter_append,List.filter_cons,List.filter_nil,hin,List.map_append,← hacc] at key
  cases c1:s.testBit na
  ·rw [c1] at e3 key
   simp only [Bool.false_and,Bool.false_eq_true,if_false,List.map_nil,List.append_nil] at key
   simp only [zA6,zA4,zA5,zA7,zA3,↓reduceIte,Option.some.injEq,Nat.reduceEqDiff,reduceCtorEq,Tryz.f10]
   rw [zA0]
   simp -implicitDefEqProofs (maxSteps:=1000000) (disch:=first|rfl|omega|assumption) only [go_sem,g1,g4,g5,g37,g38,g39,ltT,ltF,leT,hk',s2,t2,ho0,m0,m1,m3,a1,a2,a3,a4,a5,hxx,hav,za,zb,e1,e2,e3,f1,f2,f3]
   exact key _ acc rfl _ (by rfl) (by rfl) (by rfl) (by rfl) (by rfl) (by rfl)
  ·cases c2:s.testBit nb
   ·rw [c1] at e3 key
    rw [c2] at f3 key
    simp only [Bool.and_false,Bool.false_eq_true,if_false,List.map_nil,List.append_nil] at key
    simp only [zA6,zA4,zA5,zA7,zA3,↓reduceIte,Option.some.injEq,Nat.reduceEqDiff,reduceCtorEq,Tryz.f10]
    rw [zA0]
    simp -implicitDefEqProofs (maxSteps:=1000000) (disch:=first|rfl|omega|assumption) only [go_sem,g1,g4,g5,g37,g38,g39,ltT,ltF,leT,hk',s2,t2,ho0,m0,m1,m3,a1,a2,a3,a4,a5,hxx,hav,za,zb,e1,e2,e3,f1,f2,f3]
    exact key _ acc rfl _ (by rfl) (by rfl) (by rfl) (by rfl) (by rfl) (by rfl)
   ·rw [c1] at e3 key
    rw [c2] at f3 key
    simp only [Bool.and_true,if_true,List.map_cons,List.map_nil] at key
    have k1:=omM_look s na w.bs.length
    have k2:=omM_look s nb w.bs.length
    rw [if_pos ⟨by omega,c1⟩] at k1
    rw [if_pos ⟨by omega,c2⟩] at k2
    have hr:apR s ⟨na,nb⟩=⟨rk s na,rk s nb⟩:=rfl
    rw [hr] at key
    have hal:acc.length≤10:=by
     have:=List.length_filter_le (inS s) (w.ps.take j)
     have h2:(w.ps.take j).length≤w.ps.length:=by rw [List.length_take];omega
     rw [hacc,List.length_map];omega
    have hadd:∀ (o0 o1 o2 o3:AO) (G:Heap),addElem (H++(o0::o1::o2::o3::.grow 2 (acc.map Ap.av)::G)) 2 true (.gsl (H.length+4) acc.length) [.agg [I (rk s na),I (rk s nb)]]=some (.gsl (H.length+4) (acc.length+1),H++(o0::o1::o2::o3::.grow 2 ((acc++[(⟨rk s na,rk s nb⟩:Ap)]).map Ap.av)::G)):=fun o0 o1 o2 o3 G=>by
     rw [add_gsl (xs:=acc.map Ap.av) (by rw [zAi];rfl) (by simp) (by rfl) (by rfl) (by simp;omega),set_at']
     simp [Ap.av]
    have hla:(acc++[(⟨rk s na,rk s nb⟩:Ap)]).length=acc.length+1:=by simp
    have key':=fun G=>key G _ rfl
    rw [hla] at key'
    simp only [zA6,zA4,zA5,zA7,zA3,↓reduceIte,Option.some.injEq,Nat.reduceEqDiff,reduceCtorEq,Tryz.f10]
    rw [zA0]
    simp -implicitDefEqProofs (maxSteps:=1000000) (disch:=first|rfl|omega|assumption) only [go_sem,g1,g4,g5,g37,g38,g39,ltT,ltF,leT,hk',s2,t2,ho0,m0,m1,m3,a1,a2,a3,a4,a5,hxx,hav,za,zb,e1,e2,e3,f1,f2,f3,k1,k2,hadd]
    exact key' _ _ (by rfl) (by rfl) (by rfl) (by rfl) (by rfl) (by rfl)
theorem on_loop1 {w:Wg} {vb va:AV} (h:WgAt H w vb va) (ho:w.Ok) {s:Nat} (hs:s<2^60) :
  ∀ (q j:Nat),j+q=w.bs.length→∀ (G:Heap),∀ (acc:List Bk),acc=(selL s j).map w.b→∀ E:Env,E.get 1=I s→E.get 2=.ptr H.length 0→E.get 4=.ptr (H.length+1) 0→E.get 5=.map (H.length+2)→E.get 12=vb→E.get 13=I w.bs.length→E.get 14=I j →
  Option.map (zAd H.length) (zAe cfg0 zA2 ⟨10,none,false,H.length⟩ (zA5 Tryz.f10 3) ⟨E,[],H++(.box (.agg [vb,va])::.box (.agg [.gsl (H.length+3) acc.length,.gsl (H.length+4) 0])::.map 3 (omM s j)::.grow 8 (acc.map Bk.av)::.grow 2 []::G),none⟩)=some ⟨.ret (.agg [.sl false ((w.only s).bs.map Bk.av),.sl false ((w.only s).ps.map Ap.av)]),H,none⟩:=by
 intro q
 obtain ⟨a1,a2,a3,a4,a5⟩:=h.bs.fF (d:=bk0)
 have s1:=h.bs.scal
 have s2:=h.ps.scal
 have t1:=h.bs.ltn 5
 have t2:=h.ps.ltn 5
 have m0:=fun j=>omM_lt s (H.length+5) j
 have n2:=h.ps.len
 rw [List.length_map] at n2
 have c2:=h.ps.cel
 have h5:=ho.n.2
 simp only [Wg.n] at h5
 induction q with
 | zero =>
  intro j hj G acc hacc E g1 g2 g4 g5 g12 g13 g14
  have hk':¬ (j:Int)<((w.bs.length:Nat):Int):=by omega
  have ej:j=w.bs.length:=by omega
  subst ej
  have m1:ltL 0 (acc.map Bk.av)=true:=zAx (fun _=>rfl) acc
  have eb:(w.only s).bs=acc:=hacc.symm
  have u1:(AO.box (.agg [vb,va])).lt (H.length+5)=true:=by simp [AO.lt,AV.lt,ltL,t1,t2]
  have h1:=fun G=>on_loop2 h ho hs (.box (.agg [vb,va])) u1 acc w.ps.length 0 (by omega) G [] rfl
  rw [eb]
  simp only [List.map_nil,List.length_nil] at h1
  simp only [zA6,zA4,zA5,zA7,zA3,↓reduceIte,Option.some.injEq,Nat.reduceEqDiff,reduceCtorEq,Tryz.f10]
  rw [zA0]
  simp -implicitDefEqProofs (maxSteps:=1000000) (disch:=first|rfl|omega|assumption) only [go_sem,g1,g2,g4,g5,g12,g13,g14,ltT,ltF,leT,hk',s1,s2,t1,t2,m0,m1,n2,c2]
  exact h1 _ _ (by rfl) (by rfl) (by rfl) (by rfl) (by rfl) (by rfl)
 | succ q ih =>
  intro j hj G acc hacc E g1 g2 g4 g5 g12 g13 g14
  have hk':(j:Int)<((w.bs.length:Nat):Int):=by omega
  have hk2:j<w.bs.length:=by omega
  have m1:ltL 0 (acc.map Bk.av)=true:=zAx (fun _=>rfl) acc
  obtain ⟨x,hxx⟩:∃ x,w.bs.getD j bk0=x:=⟨_,rfl⟩
  have hwx:w.b j=x:=hxx
  have hav:∀ x:Bk,x.av.cells=[I x.lo,I x.hi,I x.f0.lo,I x.f0.hi,I x.f0.st,I x.f1.lo,I x.f1.hi,I x.f1.st]:=fun _=>rfl
  have hla:acc.length=rk s j:=by rw [hacc,List.length_map];rfl
  have hle:=sel_le s j
  have z:¬ (j:Int)<0:=by omega
  have e1:=shrN (s:=s) (j:=j) (by omega)
  have e2:=bitI (s:=s) (j:=j) hs
  have e3:=and_one (s:=s) (j:=j)
  have key:=fun (G:Heap) (acc':List Bk) (h':acc'=(selL s (j+1)).map w.b)=>ih (j+1) (by omega) G acc' h'
  rw [sel_succ,List.map_append,← hacc] at key
  simp only [omM] at key
  cases c1:s.testBit j
  ·rw [c1] at e3 key
   simp only [Bool.false_eq_true,if_false,List.map_nil,List.append_nil] at key
   simp only [zA6,zA4,zA5,zA7,zA3,↓reduceIte,Option.some.injEq,Nat.reduceEqDiff,reduceCtorEq,Tryz.f10]
   rw [zA0]
   simp -implicitDefEqProofs (maxSteps:=1000000) (disch:=first|rfl|omega|assumption) only [go_sem,g1,g2,g4,g5,g12,g13,g14,ltT,ltF,leT,hk',s1,s2,t1,t2,m0,m1,a1,a2,a3,a4,a5,hxx,hav,z,e1,e2,e3]
   exact key _ acc rfl _ (by rfl) (by rfl) (by rfl) (by rfl) (by rfl) (by rfl) (by rfl)
  ·rw [c1] at e3 key
   simp only [if_true,List.map_cons,List.map_nil,hwx] at key
   have hal:acc.length≤5:=by rw [hla];simp only [rk];omega
   have hadd:∀ (o0 o1 o2 o5:AO) (G:Heap),addElem (H++(o0::o1::o2::.grow 8 (acc.map Bk.av)::o5::G)) 8 true (.gsl (H.length+3) acc.length) [.agg [I x.lo,I x.hi,I x.f0.lo,I x.f0.hi,I x.f0.st,I x.f1.lo,I x.f1.hi,I x.f1.st]]=some (.gsl (H.length+3) (acc.length+1),H++(o0::o1::o2::.grow 8 ((acc++[x]).map Bk.av)::o5::G)):=fun o0 o1 o2 o5 G=>by
    rw [add_gsl (xs:=acc.map Bk.av) (by rw [zAi];rfl) (by simp) (by rfl) (by rfl) (by simp;omega),set_at']
    simp [Bk.av]
   have hlx:(acc++[x]).length=acc.length+1:=by simp
   have key':=fun G=>key G _ rfl
   rw [hlx] at key'
   rw [← hla] at key'
   simp only [zA6,zA4,zA5,zA7,zA3,↓reduceIte,Option.some.injEq,Nat.reduceEqDiff,reduceCtorEq,Tryz.f10]
   rw [zA0]
   simp -implicitDefEqProofs (maxSteps:=1000000) (disch:=first|rfl|omega|assumption) only [go_sem,g1,g2,g4,g5,g12,g13,g14,ltT,ltF,leT,hk',s1,s2,t1,t2,m0,m1,a1,a2,a3,a4,a5,hxx,hav,z,e1,e2,e3,hadd]
   exact key' _ _ (by rfl) (by rfl) (by rfl) (by rfl) (by rfl) (by rfl) (by rfl)
theorem law_only {w:Wg} {vb va:AV} (h:WgAt H w vb va) (ho:w.Ok) {s:Nat} (hs:s<2^60) :
  zA9 cfg0 zA2 false 10 [.agg [vb,va],I s] H none=some ⟨.ret (.agg [.sl false ((w.only s).bs.map Bk.av),.sl false ((w.only s).ps.map Ap.av)]),H,none⟩:=by
 have s1:=h.bs.scal
 have s2:=h.ps.scal
 have t1:=h.bs.ltn 3
 have t2:=h.ps.ltn 3
 have n1:=h.bs.len
 rw [List.length_map] at n1
 have c1:=h.bs.cel
 have h1:=fun G=>on_loop1 h ho hs w.bs.length 0 (by omega) G [] rfl
 simp only [List.map_nil,List.length_nil,omM] at h1
 refine (zA1 fn10 rfl (by simp [Tryz.f10])).trans ?_
 simp -implicitDefEqProofs (maxSteps:=1000000) (disch:=first|rfl|omega|assumption) only [go_sem,ltT,ltF,leT,s1,s2,t1,t2,n1,c1]
 exact h1 _ _ (by rfl) (by rfl) (by rfl) (by rfl) (by rfl) (by rfl) (by rfl)
def fmS (s:Int×Int) (f:Fc):Int×Int:=(if 2*f.lo<s.1 then 2*f.lo else s.1,if s.2<2*f.hi then 2*f.hi else s.2)
def fmB (s:Int×Int) (b:Bk):Int×Int:=fmS (fmS s b.f0) b.f1
def Wg.fmF (w:Wg) (s:Int×Int) (j q:Nat):Int×Int:=foldF (fun s i=>fmB s (w.b i)) s j q
def Wg.fmA (w:Wg):Int×Int:=w.fmF (5,0) 0 w.bs.length
theorem fmS_le (s:Int×Int) (f:Fc):(fmS s f).1≤s.1∧s.2≤(fmS s f).2∧(fmS s f).1≤2*f.lo∧2*f.hi≤(fmS s f).2:=by
 simp only [fmS];split<;>split<;>omega
theorem fmF_le (w:Wg):∀ (q j:Nat) (s:Int×Int),(w.fmF s j q).1≤s.1∧s.2≤(w.fmF s j q).2∧∀ i,j≤i→i<j+q→((w.fmF s j q).1≤2*(w.b i).f0.lo∧2*(w.b i).f0.hi≤(w.fmF s j q).2)∧((w.fmF s j q).1≤2*(w.b i).f1.lo∧2*(w.b i).f1.hi≤(w.fmF s j q).2)
 | 0,j,s=>⟨Int.le_refl _,Int.le_refl _,fun i h1 h2=>by omega⟩
 | q+1,j,s=>by
  have e:w.fmF s j (q+1)=w.fmF (fmB s (w.b j)) (j+1) q:=rfl
  obtain ⟨h1,h2,h3⟩:=fmF_le w q (j+1) (fmB s (w.b j))
  have a:=fmS_le s (w.b j).f0
  have b:=fmS_le (fmS s (w.b j).f0) (w.b j).f1
  simp only [fmB] at e h1 h2 h3
  rw [e]
  refine ⟨by omega,by omega,fun i k1 k2=>?_⟩
  by_cases k:i=j
  ·subst k;omega
  ·exact h3 i (by omega) (by omega)
theorem fmA_le (w:Wg) {i:Nat} (hi:i<w.bs.length) {k:Nat}:w.fmA.1≤2*((w.b i).fc k).lo∧2*((w.b i).fc k).hi≤w.fmA.2:=by
 obtain ⟨h1,h2,h3⟩:=fmF_le w w.bs.length 0 (5,0)
 have:=h3 i (by omega) (by omega)
 simp only [Wg.fmA,Bk.fc]
 split<;>omega
def Wg.lens (w:Wg):List (Int×Int):=w.bs.map fun b=>(b.lo,b.hi)
theorem lens_at (w:Wg) (i:Nat):w.lens.getD i (0,0)=((w.b i).lo,(w.b i).hi):=by
 by_cases h:i<w.bs.length
 ·simp [Wg.lens,h]
 ·simp [Wg.lens,h,bk0]
def sumI:List Int→Int
 | []=>0
 | x::r=>x+sumI r
theorem sumI_app:∀ a b:List Int,sumI (a++b)=sumI a+sumI b
 | [],b=>by simp [sumI]
 | x::r,b=>by simp only [List.cons_append,sumI,sumI_app r b];omega
theorem sumI_perm {a b:List Int} (h:a.Perm b):sumI a=sumI b:=by
 induction h with
 | nil=>rfl
 | cons x _ ih=>simp only [sumI,ih]
 | swap x y l=>simp only [sumI];omega
 | trans _ _ h1 h2=>exact h1.trans h2
theorem sumF_list (g:Nat→Int):∀ (q j:Nat),sumF g j q=sumI ((List.range' j q).map g)
 | 0,_=>rfl
 | q+1,j=>by
  have:sumF g j (q+1)=g j+sumF g (j+1) q:=rfl
  rw [this,sumF_list g q (j+1)]
  rfl
theorem sumF_map {α:Type} (l:List α) (d:α) (g:α→Int):sumF (fun i=>g (l.getD i d)) 0 l.length=sumI (l.map g):=by
 rw [sumF_list,← List.range_eq_range']
 congr 1
 apply List.ext_getElem
 ·simp
 ·intro i h1 h2
  simp at h1 h2
  simp [h2]
theorem sumF_ge {g:Nat→Int} {c:Int}:∀ (q j:Nat),(∀ i,j≤i→i<j+q→c≤g i)→c*(q:Int)≤sumF g j q
 | 0,_,_=>by simp [sumF]
 | q+1,j,h=>by
  have e:sumF g j (q+1)=g j+sumF g (j+1) q:=rfl
  have h1:=sumF_ge q (j+1) (fun i a b=>h i (by omega) (by omega))
  have h2:=h j (by omega) (by omega)
  have e2:c*((q+1:Nat):Int)=c*(q:Int)+c:=by rw [Int.natCast_add,Int.mul_add];simp
  rw [e,e2];omega
theorem sumF_up {g:Nat→Int} {c:Int}:∀ (q j:Nat),(∀ i,j≤i→i<j+q→g i≤c)→sumF g j q≤c*(q:Int)
 | 0,_,_=>by simp [sumF]
 | q+1,j,h=>by
  have e:sumF g j (q+1)=g j+sumF g (j+1) q:=rfl
  have h1:=sumF_up q (j+1) (fun i a b=>h i (by omega) (by omega))
  have h2:=h j (by omega) (by omega)
  have e2:c*((q+1:Nat):Int)=c*(q:Int)+c:=by rw [Int.natCast_add,Int.mul_add];simp
  rw [e,e2];omega
theorem lgN_sum (w:Wg) (film:Int×Int) (s:Nat):∀ j,(lgN w.lens film j s).many=(selL s j).length ∧
  (lgN w.lens film j s).lo=sumI ((selL s j).map fun i=>(w.b i).lo)+film.1*(((selL s j).length-1:Nat):Int) ∧
  (lgN w.lens film j s).hi=sumI ((selL s j).map fun i=>(w.b i).hi)+film.2*(((selL s j).length-1:Nat):Int)
 | 0=>by simp [lgN,selL,sumI]
 | j+1=>by
  obtain ⟨h1,h2,h3⟩:=lgN_sum w film s j
  rw [sel_succ]
  simp only [lgN]
  cases hb:s.testBit j
  ·simp only [Bool.false_eq_true,if_false,List.append_nil]
   exact ⟨h1,h2,h3⟩
  ·simp only [if_true,Lg.wit,lens_at,h1,List.map_append,List.map_cons,List.map_nil,sumI_app,List.length_append,List.length_singleton,h2,h3,sumI]
   by_cases h0:(selL s j).length=0
   ·simp [h0]
   ·obtain ⟨m,hm⟩:∃ m,(selL s j).length=m+1:=⟨_,(Nat.succ_pred h0).symm⟩
    have e:∀ c:Int,c*((m+1:Nat):Int)=c*(m:Int)+c:=fun c=>by rw [Int.natCast_add,Int.mul_add];simp
    simp only [hm,Nat.add_sub_cancel,e]
    rw [if_pos (by omega),if_pos (by omega)]
    refine ⟨trivial,?_,?_⟩<;>omega
theorem stk_perm {w:Wg} {l:List Pc} (h:w.stk l=true) (hl:l.length=w.bs.length):(l.map fun x=>x.b.toNat).Perm (List.range w.bs.length):=by
 obtain ⟨h0,h1,h2⟩:=stk_iff.1 h
 have hs:=(stk_whole h).1 hl
 have hnd:(l.map fun x=>x.b.toNat).Nodup:=by
  rw [List.Nodup,List.pairwise_map] at h2 ⊢
  refine List.Pairwise.imp_of_mem ?_ h2
  intro a b ha hb hab e
  have p:=(h1 a ha).1
  have q:=(h1 b hb).1
  exact hab (by omega)
 refine (List.perm_ext_iff_of_nodup hnd List.nodup_range).2 fun i=>?_
 rw [List.mem_range,List.mem_map]
 constructor
 ·rintro ⟨x,hx,rfl⟩
  have hp:=h1 x hx
  have p1:=hp.1
  have p2:=hp.2.1
  simp only [Wg.n] at p2
  omega
 ·intro hi
  obtain ⟨x,hx,e⟩:=(hs i).1 (full_bit.2 hi)
  exact ⟨x,hx,by omega⟩
theorem range_map {α:Type} (l:List α) (d:α) (g:α→Int):(List.range l.length).map (fun i=>g (l.getD i d))=l.map g:=by
 apply List.ext_getElem
 ·simp
 ·intro i h1 h2
  simp at h1 h2
  simp [h2]
theorem stk_sum {w:Wg} {l:List Pc} (h:w.stk l=true) (hl:l.length=w.bs.length) (g:Bk→Int):sumF (fun i=>g (w.b (pcA l i).b.toNat)) 0 l.length=sumI (w.bs.map g):=by
 have e:=sumF_map l pc0 (fun x=>g (w.b x.b.toNat))
 rw [show sumF (fun i=>g (w.b (pcA l i).b.toNat)) 0 l.length=sumI (l.map fun x=>g (w.b x.b.toNat)) from e]
 have e2:=sumI_perm ((stk_perm h hl).map fun i=>g (w.b i))
 rw [List.map_map] at e2
 rw [show (l.map fun x=>g (w.b x.b.toNat))=l.map ((fun i=>g (w.b i)) ∘ fun x:Pc=>x.b.toNat) from rfl,e2]
 congr 1
 exact range_map w.bs bk0 g
theorem pf_at {w:Wg} {s k:Nat} {i:Nat} (hi:i<(selL s w.bs.length).length) (c:Nat):∃ r,r<w.bs.length∧((((w.only s).pol k).b i).fc c).lo=((w.b r).fc c).lo∧((((w.only s).pol k).b i).fc c).hi=((w.b r).fc c).hi:=by
 have hr:=(sel_at hi).1
 refine ⟨_,hr,?_⟩
 rw [pol_b _ _ (by rw [only_n];exact hi),only_b w s hi]
 obtain ⟨_,_,k3,k4,k5,k6,_⟩:=polB_keep k i (w.b ((selL s w.bs.length).getD i 0))
 simp only [Bk.fc]
 split
 ·exact ⟨k3,k4⟩
 ·exact ⟨k5,k6⟩
theorem pol_sum (w:Wg) (k:Nat):sumI ((w.pol k).bs.map Bk.lo)=sumI (w.bs.map Bk.lo)∧sumI ((w.pol k).bs.map Bk.hi)=sumI (w.bs.map Bk.hi):=by
 constructor
 ·rw [← range_map _ bk0,← range_map _ bk0,pol_n]
  congr 1
  apply List.map_congr_left
  intro i hi
  have:=pol_b w k (List.mem_range.1 hi)
  simp only [Wg.b] at this
  rw [this]
  exact (polB_keep k i _).1
 ·rw [← range_map _ bk0,← range_map _ bk0,pol_n]
  congr 1
  apply List.map_congr_left
  intro i hi
  have:=pol_b w k (List.mem_range.1 hi)
  simp only [Wg.b] at this
  rw [this]
  exact (polB_keep k i _).2.1
theorem len_in {w:Wg} {s k:Nat} {l:List Pc} (hs:((w.only s).pol k).stk l=true) (hl:l.length=((w.only s).pol k).bs.length) :
  (lgN w.lens w.fmA w.bs.length s).lo≤(((w.only s).pol k).flm l).1+sumF (fun i=>(((w.only s).pol k).b (pcA l i).b.toNat).lo) 0 l.length ∧
  (((w.only s).pol k).flm l).2+sumF (fun i=>(((w.only s).pol k).b (pcA l i).b.toNat).hi) 0 l.length≤(lgN w.lens w.fmA w.bs.length s).hi:=by
 obtain ⟨hp,h0⟩:=stk_pok hs
 obtain ⟨_,e1,e2⟩:=lgN_sum w w.fmA s w.bs.length
 have hn:l.length=(selL s w.bs.length).length:=by rw [hl,pol_n,only_n]
 have q1:=stk_sum hs hl Bk.lo
 have q2:=stk_sum hs hl Bk.hi
 obtain ⟨q3,q4⟩:=pol_sum (w.only s) k
 have m1:(w.only s).bs.map Bk.lo=(selL s w.bs.length).map fun i=>(w.b i).lo:=by simp [Wg.only]
 have m2:(w.only s).bs.map Bk.hi=(selL s w.bs.length).map fun i=>(w.b i).hi:=by simp [Wg.only]
 rw [q1,q2,q3,q4,m1,m2,e1,e2,flm_sum,← hn]
 have hf:∀ i,i<l.length→∀ c,w.fmA.1≤2*((((w.only s).pol k).b (pcA l i).b.toNat).fc c).lo∧2*((((w.only s).pol k).b (pcA l i).b.toNat).fc c).hi≤w.fmA.2:=fun i hi c=>by
  have hb:=(hp i hi).2.1
  have hb0:=(hp i hi).1
  simp only [Wg.n,pol_n,only_n] at hb
  obtain ⟨r,r1,r2,r3⟩:=pf_at (w:=w) (s:=s) (k:=k) (i:=(pcA l i).b.toNat) (by omega) c
  rw [r2,r3]
  exact fmA_le w r1
 have g1:=sumF_ge (g:=fun i=>(((w.only s).pol k).fa (pcA l i)).lo+(((w.only s).pol k).fb (pcA l (i+1))).lo) (c:=w.fmA.1) (l.length-1) 0 (fun i _ hi=>by
  have a:=(hf i (by omega) (pcA l i).u.toNat).1
  have b:=(hf (i+1) (by omega) (1-(pcA l (i+1)).u.toNat)).1
  simp only [Wg.fa,Wg.fb]
  omega)
 have g2:=sumF_up (g:=fun i=>(((w.only s).pol k).fa (pcA l i)).hi+(((w.only s).pol k).fb (pcA l (i+1))).hi) (c:=w.fmA.2) (l.length-1) 0 (fun i _ hi=>by
  have a:=(hf i (by omega) (pcA l i).u.toNat).2
  have b:=(hf (i+1) (by omega) (1-(pcA l (i+1)).u.toNat)).2
  simp only [Wg.fa,Wg.fb]
  omega)
 constructor
 ·dsimp only;omega
 ·dsimp only;omega
theorem sel_pop:∀ n<6,∀ s<2^n,(selL s n).length=pop s:=by decide +kernel
theorem lt16 (us:List Int) (N:Nat):ltL N (us.map B16)=true:=zAx (fun _=>rfl) _
theorem lens_take (w:Wg) {j:Nat} (hj:j<w.bs.length):w.lens.take (j+1)=w.lens.take j++[((w.b j).lo,(w.b j).hi)]:=by
 rw [List.take_succ_eq_append_getElem (by simp [Wg.lens];exact hj)]
 simp [Wg.lens,hj]
theorem lens_len (w:Wg):w.lens.length=w.bs.length:=List.length_map _
theorem tw_l5 {w:Wg} (ho:w.Ok) {vb va:AV} (h:WgAt H w vb va) (a b:Int) (fl:Bool) (us:List Int) (r:Int×Int) (K:List Item) (R:Option Done) (hK:∀ E:Env,E.get 1=.int .u16 a→E.get 2=.int .u8 b→E.get 3=.sl fl (us.map B16)→E.get 4=.ptr H.length 0→E.get 9=.ptr (H.length+1) 0→Option.map (zAd H.length) (zAe cfg0 zA2 ⟨3,none,false,H.length⟩ K ⟨E,[],H++[.box (.agg [vb,va]),.box (.agg [.gsl (H.length+2) w.bs.length,I r.1,I r.2]),.grow 2 (w.lens.map spA)],none⟩)=R)  :
  ∀ (q j:Nat),j+q=w.bs.length→∀ (G:Heap),∀ (s:Int×Int),w.fmF s j q=r→∀ E:Env,E.get 1=.int .u16 a→E.get 2=.int .u8 b→E.get 3=.sl fl (us.map B16)→E.get 4=.ptr H.length 0→E.get 9=.ptr (H.length+1) 0→E.get 59=vb→E.get 60=I w.bs.length→E.get 61=I j →
  Option.map (zAd H.length) (zAe cfg0 zA2 ⟨3,none,false,H.length⟩ (zA6 Tryz.f3 5::.inBlock 0::K) ⟨E,[],H++(.box (.agg [vb,va])::.box (.agg [.gsl (H.length+2) j,I s.1,I s.2])::.grow 2 ((w.lens.take j).map spA)::G),none⟩)=R:=by
 intro q
 obtain ⟨a1,a2,a3,a4,a5⟩:=h.bs.fF (d:=bk0)
 have s1:=h.bs.scal
 have s2:=h.ps.scal
 have t1:=h.bs.ltn 3
 have t2:=h.ps.ltn 3
 have t1':=h.bs.ltn 4
 have t2':=h.ps.ltn 4
 have t4:=fun N=>lt16 us N
 have t5:∀ N j,ltL N ((w.lens.take j).map spA)=true:=fun N j=>spLt _ _
 have n1:=h.bs.len
 rw [List.length_map] at n1
 have h5:=ho.n.2
 simp only [Wg.n] at h5
 have hsp:=fun G:Heap=>fun a b=>law_span a b G
 induction q with
 | zero =>
  intro j hj G s hr E g1 g2 g3 g4 g9 g59 g60 g61
  have hk':¬ (j:Int)<((w.bs.length:Nat):Int):=by omega
  have ej:j=w.bs.length:=by omega
  subst ej
  have er:s=r:=hr
  subst er
  have et:w.lens.take w.bs.length=w.lens:=by rw [← lens_len w,List.take_length]
  rw [et]
  have t6:∀ N,ltL N (w.lens.map spA)=true:=fun N=>spLt _ _
  simp only [zA6,zA4,zA5,zA7,zA3,↓reduceIte,Option.some.injEq,Nat.reduceEqDiff,reduceCtorEq,Tryz.f3]
  rw [zA0]
  simp -implicitDefEqProofs (maxSteps:=1000000) (disch:=first|rfl|omega|assumption) only [go_sem,g1,g2,g3,g4,g9,g59,g60,g61,ltT,ltF,leT,hk',s1,s2,t1,t2,t4,t5,t6,n1]
  exact hK _ (by rfl) (by rfl) (by rfl) (by rfl) (by rfl)
 | succ q ih =>
  intro j hj G s hr E g1 g2 g3 g4 g9 g59 g60 g61
  have hk':(j:Int)<((w.bs.length:Nat):Int):=by omega
  have hk2:j<w.bs.length:=by omega
  obtain ⟨x,hx⟩:∃ x,w.b j=x:=⟨_,rfl⟩
  have hx':w.bs.getD j bk0=x:=hx
  have hf0:=ho.f0 j hk2
  have hf1:=ho.f1 j hk2
  have hsb:=ho.sp j hk2
  have htk:=lens_take w hk2
  rw [hx] at hf0 hf1 hsb htk
  obtain ⟨lo,hi,⟨f1,f2,f3⟩,⟨f4,f5,f6⟩⟩:=x
  obtain ⟨y1,y2,y3⟩:=hf0.sp
  obtain ⟨y4,y5,y6⟩:=hf1.sp
  simp only at y1 y2 y3 y4 y5 y6 hsb htk
  obtain ⟨z1,z2⟩:=s
  have hstep:w.fmF (z1,z2) j (q+1)=w.fmF (fmB (z1,z2) (w.b j)) (j+1) q:=rfl
  rw [hstep,hx] at hr
  simp only [fmB,fmS] at hr
  obtain ⟨m1,hm1⟩:∃ m,(if 2*f1<z1 then 2*f1 else z1)=m:=⟨_,rfl⟩
  obtain ⟨m2,hm2⟩:∃ m,(if z2<2*f2 then 2*f2 else z2)=m:=⟨_,rfl⟩
  rw [hm1,hm2] at hr
  obtain ⟨m3,hm3⟩:∃ m,(if 2*f4<m1 then 2*f4 else m1)=m:=⟨_,rfl⟩
  obtain ⟨m4,hm4⟩:∃ m,(if m2<2*f5 then 2*f5 else m2)=m:=⟨_,rfl⟩
  rw [hm3,hm4] at hr
  have hav:∀ (o:Nat) (ty:Ty),zAf (Bk.av ⟨lo,hi,⟨f1,f2,f3⟩,⟨f4,f5,f6⟩⟩).cells o ty=zAf [I lo,I hi,I f1,I f2,I f3,I f4,I f5,I f6] o ty:=fun _ _=>rfl
  have lm:((w.lens.take j).map spA).length=j:=by rw [List.length_map,List.length_take,lens_len];omega
  have hadd:∀ (o0 o1:AO) (G:Heap),addElem (H++(o0::o1::.grow 2 ((w.lens.take j).map spA)::G)) 2 true (.gsl (H.length+2) j) [.agg [I lo,I hi]]=some (.gsl (H.length+2) (j+1),H++(o0::o1::.grow 2 ((w.lens.take (j+1)).map spA)::G)):=fun o0 o1 G=>by
   rw [add_gsl (xs:=(w.lens.take j).map spA) (by rw [zAi];rfl) lm (by rfl) (by rfl) (by simp;omega),set_at',htk]
   simp [spA]
  have key:=fun G=>ih (j+1) (by omega) G (m3,m4) hr
  simp only [zA6,zA4,zA5,zA7,zA3,↓reduceIte,Option.some.injEq,Nat.reduceEqDiff,reduceCtorEq,Tryz.f3]
  rw [zA0]
  simp -implicitDefEqProofs (maxSteps:=1000000) (disch:=first|rfl|omega|assumption) only [go_sem,g1,g2,g3,g4,g9,g59,g60,g61,ltT,ltF,leT,hk',s1,s2,t1,t2,t1',t2',t4,t5,n1,a1,a2,a3,a4,a5,hx',hav,hadd]
  rw [zA0]
  simp -implicitDefEqProofs (maxSteps:=1000000) (disch:=first|rfl|omega|assumption) only [go_sem,g1,g2,g3,g4,g9,g59,g60,g61,ltT,ltF,leT,hk',s1,s2,t1,t2,t1',t2',t4,t5,hsp,hm1,hm2]
  rw [zA0]
  simp -implicitDefEqProofs (maxSteps:=1000000) (disch:=first|rfl|omega|assumption) only [go_sem,g1,g2,g3,g4,g9,g59,g60,g61,ltT,ltF,leT,hk',s1,s2,t1,t2,t1',t2',t4,t5,hsp,hm3,hm4]
  rw [zA0]
  simp -implicitDefEqProofs (maxSteps:=1000000) (disch:=first|rfl|omega|assumption) only [go_sem,g1,g2,g3,g4,g9,g59,g60,g61,ltT,ltF,leT,hk',s1,s2,t1,t2,t1',t2',t4,t5]
  exact key _ _ (by rfl) (by rfl) (by rfl) (by rfl) (by rfl) (by rfl) (by rfl) (by rfl)
theorem tw_l38 {w y:Wg} (hy:y.Ok) {vb va:AV} (h:WgAt H w vb va) (fl:Bool) {us:List Int} (hu:∀ i,i<us.length→0≤us.getD i 0∧us.getD i 0≤65535) (hul:us.length≤9223372036854775807) (r:Int×Int) (wlo whi llo lhi:Int) {l:List Pc} (hs:y.stk l=true) (hh:y.hld false l=true) (hll:l.length≤5) (A B F C:Int) :
  ∀ (q j:Nat),j+q=l.length→∀ (G:Heap),∀ (own thick a:Int),0≤own∧own≤200*(j:Int)∧0≤thick∧thick≤10*(j:Int)∧0≤a∧a≤3*(j:Int)→C≤thick+sumF (fun i=>(y.fa (pcA l i)).lo+(y.fb (pcA l (i+1))).lo) j (q-1)→thick+sumF (fun i=>(y.fa (pcA l i)).hi+(y.fb (pcA l (i+1))).hi) j (q-1)≤F→A≤C+own+sumF (fun i=>(y.b (pcA l i).b.toNat).lo) j q→F+own+sumF (fun i=>(y.b (pcA l i).b.toNat).hi) j q≤B→∀ E:Env,E.get 20=.ptr (H.length+4) 0→E.get 26=I F→E.get 27=.sl false (l.map Pc.av)→E.get 31=.ptr (H.length+5) 0→E.get 33=.func (.func 59) [] [.ptr (H.length+7) 0,.ptr (H.length+6) 0]→E.get 34=I own→E.get 35=I thick→E.get 243=.sl false (l.map Pc.av)→E.get 244=I l.length→E.get 245=I j →
  Option.map (zAd H.length) (zAe cfg0 zA2 ⟨3,none,false,H.length⟩ (zA5 Tryz.f3 38) ⟨E,[],H++(.box (.agg [vb,va])::.box (.agg [.sl false (w.lens.map spA),I r.1,I r.2])::.box (.agg [I wlo,I whi])::.box (.agg [I llo,I lhi])::.box (.agg [bkV y.bs,.sl false (y.ps.map Ap.av)])::.box (.agg [I A,I B])::.box (.sl fl (us.map B16))::.box (I a)::G),none⟩)=some ⟨.ret (.bool true),H,none⟩:=by
 intro q
 obtain ⟨hp,hl0⟩:=stk_pok hs
 have hld:=hld_iff.1 hh
 have s1:=h.bs.scal
 have s2:=h.ps.scal
 have t1:=h.bs.ltn 8
 have t2:=h.ps.ltn 8
 have t4:=fun N=>lt16 us N
 have t5:∀ N,ltL N (w.lens.map spA)=true:=fun N=>spLt _ _
 have t6:∀ N,ltL N (y.bs.map Bk.av)=true:=fun N=>zAx (fun _=>rfl) _
 have t7:∀ N,ltL N (y.ps.map Ap.av)=true:=fun N=>zAx (fun _=>rfl) _
 have t8:∀ N,ltL N (l.map Pc.av)=true:=fun N=>zAx (fun _=>rfl) _
 have hD:=fun (a lo hi:Int) (G:Heap) (ha:0≤a∧a≤1000) (hn : -1000≤lo∧lo≤hi∧hi≤1000)=>show zA9 cfg0 zA2 false 59 [.agg [I lo,I hi],.ptr (H.length+7) 0,.ptr (H.length+6) 0] (H++(.box (.agg [vb,va])::.box (.agg [.sl false (w.lens.map spA),I r.1,I r.2])::.box (.agg [I wlo,I whi])::.box (.agg [I llo,I lhi])::.box (.agg [bkV y.bs,.sl false (y.ps.map Ap.av)])::.box (.agg [I A,I B])::.box (.sl fl (us.map B16))::.box (I a)::G)) none=some ⟨.ret (I (drawZ us (a+1) lo hi)),H++(.box (.agg [vb,va])::.box (.agg [.sl false (w.lens.map spA),I r.1,I r.2])::.box (.agg [I wlo,I whi])::.box (.agg [I llo,I lhi])::.box (.agg [bkV y.bs,.sl false (y.ps.map Ap.av)])::.box (.agg [I A,I B])::.box (.sl fl (us.map B16))::.box (I (a+1))::G),none⟩ from by
  have:=law_draw (H:=H++(.box (.agg [vb,va])::.box (.agg [.sl false (w.lens.map spA),I r.1,I r.2])::.box (.agg [I wlo,I whi])::.box (.agg [I llo,I lhi])::.box (.agg [bkV y.bs,.sl false (y.ps.map Ap.av)])::.box (.agg [I A,I B])::.box (.sl fl (us.map B16))::.box (I a)::G)) (us:=us) (fl:=fl) hu hul (p1:=H.length+7) (p2:=H.length+6) (a:=a) ha (by rw [zAi];rfl) (by rw [zAi];rfl) (by omega) (lo:=lo) (hi:=hi) hn
  rw [set_at'] at this
  exact this
 have hL1:SlOk H 2 (.sl false (l.map Pc.av)) (l.map Pc.av):=⟨rfl,fun x hx=>by obtain ⟨i,_,rfl⟩:=List.mem_map.1 hx;rfl⟩
 obtain ⟨a1,a2,a3,a4,a5⟩:=hL1.fF (d:=pc0)
 have hL2:SlOk H 8 (.sl false (y.bs.map Bk.av)) (y.bs.map Bk.av):=⟨rfl,fun x hx=>by obtain ⟨i,_,rfl⟩:=List.mem_map.1 hx;rfl⟩
 obtain ⟨b1,b2,b3,b4,b5⟩:=hL2.fF (d:=bk0)
 have hrp:∀ x:Pc,x.av.cells=[I x.b,I x.u]:=fun _=>rfl
 have hrb:∀ x:Bk,x.av.cells=[I x.lo,I x.hi,I x.f0.lo,I x.f0.hi,I x.f0.st,I x.f1.lo,I x.f1.hi,I x.f1.st]:=fun _=>rfl
 have hpe:∀ (k:Int) (o:Nat),ptrOf (elA (.sl false (y.bs.map Bk.av)) k o)=none:=fun _ _=>rfl
 have hge:∀ (k:Int) (o:Nat),gslOf (elA (.sl false (y.bs.map Bk.av)) k o)=none:=fun _ _=>rfl
 simp only [bkV]
 simp only [bkV] at hD
 induction q with
 | zero =>
  intro j hj G own thick a i0 i1 i2 i3 i4 E g20 g26 g27 g31 g33 g34 g35 g243 g244 g245
  have hk':¬ (j:Int)<((l.length:Nat):Int):=by omega
  simp only [sumF,Nat.zero_sub] at i1 i2 i3 i4
  simp only [zA6,zA4,zA5,zA7,zA3,↓reduceIte,Option.some.injEq,Nat.reduceEqDiff,reduceCtorEq,Tryz.f3]
  rw [zA0]
  have z1:thick≤F:=by omega
  have z2:A≤own+thick:=by omega
  have z3:own+thick≤B:=by omega
  have e:IntKind.i64.wrap (own+thick)=own+thick:=w64 (by omega) (by omega)
  simp -implicitDefEqProofs (maxSteps:=1000000) (disch:=first|rfl|omega|assumption) only [go_sem,g20,g26,g27,g31,g33,g34,g35,g243,g244,g245,ltT,ltF,leT,hk',s1,s2,t1,t2,t4,t5,t6,t7,t8,z1,z2,z3,e,law_awake5]
  done
 | succ q ih =>
  intro j hj G own thick a i0 i1 i2 i3 i4 E g20 g26 g27 g31 g33 g34 g35 g243 g244 g245
  have hk':(j:Int)<((l.length:Nat):Int):=by omega
  have hk2:j<l.length:=by omega
  obtain ⟨x,hx⟩:∃ x,l.getD j pc0=x:=⟨_,rfl⟩
  have hpx:=hp j hk2
  have hpA:pcA l j=x:=hx
  rw [hpA] at hpx
  obtain ⟨xb,xu⟩:=x
  obtain ⟨p1,p2',p3,p4⟩:=hpx
  simp only [Wg.n] at p1 p2' p3 p4
  obtain ⟨k,hk⟩:∃ k,y.bs.getD xb.toNat bk0=k:=⟨_,rfl⟩
  have hk0:y.b xb.toNat=k:=hk
  have hsb:=hy.sp xb.toNat (by simp only [Wg.n];omega)
  have hf0:=hy.f0 xb.toNat (by simp only [Wg.n];omega)
  have hf1:=hy.f1 xb.toNat (by simp only [Wg.n];omega)
  rw [hk0] at hsb hf0 hf1
  obtain ⟨lo,hi,⟨f1,f2,f3⟩,⟨f4,f5,f6⟩⟩:=k
  obtain ⟨y1,y2,y3⟩:=hf0.sp
  obtain ⟨y4,y5,y6⟩:=hf1.sp
  have u1:sumF (fun i=>(y.b (pcA l i).b.toNat).lo) j (q+1)=lo+sumF (fun i=>(y.b (pcA l i).b.toNat).lo) (j+1) q:=by
   simp only [sumF,hpA,hk0]
  have u2:sumF (fun i=>(y.b (pcA l i).b.toNat).hi) j (q+1)=hi+sumF (fun i=>(y.b (pcA l i).b.toNat).hi) (j+1) q:=by
   simp only [sumF,hpA,hk0]
  rw [u1] at i3
  rw [u2] at i4
  simp only at y1 y2 y3 y4 y5 y6 hsb
  have d1:=draw_bd (us:=us) (a:=a+1) hsb.2.1
  have hD1:=fun G=>hD a lo hi G (by omega) (by omega)
  generalize drawZ us (a+1) lo hi=e1 at *
  have w1:IntKind.i64.wrap (own+e1)=own+e1:=w64 (by omega) (by omega)
  have w2:IntKind.i64.wrap ((j:Int)+1)=(j:Int)+1:=w64 (by omega) (by omega)
  simp only [Nat.add_sub_cancel] at i1 i2
  by_cases hq:q=0
  ·subst hq
   have z:¬ (j:Int)+1<(l.length:Int):=by omega
   simp only [sumF] at i1 i2
   have key:=fun G=>ih (j+1) (by omega) G (own+e1) thick (a+1) (by omega) (by simpa [sumF] using i1) (by simpa [sumF] using i2) (by omega) (by omega)
   simp only [zA6,zA4,zA5,zA7,zA3,↓reduceIte,Option.some.injEq,Nat.reduceEqDiff,reduceCtorEq,Tryz.f3]
   rw [zA0]
   simp -implicitDefEqProofs (maxSteps:=1000000) (disch:=first|rfl|omega|assumption) only [go_sem,g20,g26,g27,g31,g33,g34,g35,g243,g244,g245,ltT,ltF,leT,hk',s1,s2,t1,t2,t4,t5,t6,t7,t8,a1,a2,a3,a4,a5,b1,b2,b3,b4,b5,hx,hrp,hk,hrb,hD1,w1,w2,z]
   exact key _ _ (by rfl) (by rfl) (by rfl) (by rfl) (by rfl) (by rfl) (by rfl) (by rfl) (by rfl) (by rfl)
  ·obtain ⟨q,rfl⟩:∃ p,q=p+1:=⟨q-1,by omega⟩
   have z:(j:Int)+1<(l.length:Int):=by omega
   have hjn:((j:Int)+1).toNat=j+1:=by omega
   obtain ⟨x',hx'⟩:∃ x,l.getD (j+1) pc0=x:=⟨_,rfl⟩
   have hpx:=hp (j+1) (by omega)
   have hpA':pcA l (j+1)=x':=hx'
   have hjt:=hld j (by omega)
   rw [hpA,hpA'] at hjt
   rw [hpA'] at hpx
   obtain ⟨_,c1,c2⟩:=jtz.1 hjt
   obtain ⟨xb',xu'⟩:=x'
   obtain ⟨p1',p2'',p3',p4'⟩:=hpx
   simp only [Wg.n] at p1' p2'' p3' p4'
   obtain ⟨k,hk'⟩:∃ k,y.bs.getD xb'.toNat bk0=k:=⟨_,rfl⟩
   have hk0':y.b xb'.toNat=k:=hk'
   have hf0':=hy.f0 xb'.toNat (by simp only [Wg.n];omega)
   have hf1':=hy.f1 xb'.toNat (by simp only [Wg.n];omega)
   rw [hk0'] at hf0' hf1'
   obtain ⟨lo',hi',⟨f1',f2',f3'⟩,⟨f4',f5',f6'⟩⟩:=k
   obtain ⟨y1',y2',y3'⟩:=hf0'.sp
   obtain ⟨y4',y5',y6'⟩:=hf1'.sp
   have v1:sumF (fun i=>(y.fa (pcA l i)).lo+(y.fb (pcA l (i+1))).lo) j (q+1)=((y.fa ⟨xb,xu⟩).lo+(y.fb ⟨xb',xu'⟩).lo)+sumF (fun i=>(y.fa (pcA l i)).lo+(y.fb (pcA l (i+1))).lo) (j+1) q:=by
    simp only [sumF,hpA,hpA']
   have v2:sumF (fun i=>(y.fa (pcA l i)).hi+(y.fb (pcA l (i+1))).hi) j (q+1)=((y.fa ⟨xb,xu⟩).hi+(y.fb ⟨xb',xu'⟩).hi)+sumF (fun i=>(y.fa (pcA l i)).hi+(y.fb (pcA l (i+1))).hi) (j+1) q:=by
    simp only [sumF,hpA,hpA']
   rw [v1] at i1
   rw [v2] at i2
   have key:=fun G thick'=>ih (j+1) (by omega) G (own+e1) thick' (a+3)
   simp only [Nat.add_sub_cancel] at key
   generalize sumF (fun i=>(y.fa (pcA l i)).lo+(y.fb (pcA l (i+1))).lo) (j+1) q=S1 at i1 key
   generalize sumF (fun i=>(y.fa (pcA l i)).hi+(y.fb (pcA l (i+1))).hi) (j+1) q=S2 at i2 key
   clear v1 v2
   have h10:=hf0.st
   have h11:=hf1.st
   have h20:=hf0'.st
   have h21:=hf1'.st
   simp only [Wg.fa,Wg.fb,hk0,hk0',lvl,Bool.false_eq_true,if_false] at c1 c2 i1 i2
   simp only at y1' y2' y3' y4' y5' y6' h10 h11 h20 h21
   have hu:xu=0∨xu=1:=by omega
   have hu':xu'=0∨xu'=1:=by omega
   rcases hu with rfl | rfl
   ·rcases hu' with rfl | rfl
    ·simp only [Bk.fc,show ((0:Int)).toNat=0 from rfl,show ((1:Int)).toNat=1 from rfl,Nat.sub_zero,Nat.sub_self,if_true,show ¬ (1:Nat)=0 by decide,if_false] at c1 c2 i1 i2
     have d2:=draw_bd (us:=us) (a:=a+1+1) (show f1≤f2 by omega)
     have hD2:=fun G=>hD (a+1) f1 f2 G (by omega) (by omega)
     have d3:=draw_bd (us:=us) (a:=a+1+1+1) (show f4'≤f5' by omega)
     have hD3:=fun G=>hD (a+1+1) f4' f5' G (by omega) (by omega)
     generalize drawZ us (a+1+1) f1 f2=e2 at *
     generalize drawZ us (a+1+1+1) f4' f5'=e3 at *
     have c3:f3=0:=by omega
     have c4:f6'=0:=by omega
     subst c3
     subst c4
     have w3:IntKind.i64.wrap (e2+e3)=e2+e3:=w64 (by omega) (by omega)
     have w4:IntKind.i64.wrap (thick+(e2+e3))=thick+(e2+e3):=w64 (by omega) (by omega)
     have e9:a+1+1+1=a+3:=by omega
     rw [e9] at hD3
     have key:=fun G=>key G (thick+(e2+e3)) (by omega) (by omega) (by omega) (by omega) (by omega)
     simp only [zA6,zA4,zA5,zA7,zA3,↓reduceIte,Option.some.injEq,Nat.reduceEqDiff,reduceCtorEq,Tryz.f3]
     rw [zA0]
     simp -implicitDefEqProofs (maxSteps:=1000000) (disch:=first|rfl|omega|assumption) only [go_sem,g20,g26,g27,g31,g33,g34,g35,g243,g244,g245,ltT,ltF,leT,hk',s1,s2,t1,t2,t4,t5,t6,t7,t8,a1,a2,a3,a4,a5,b1,b2,b3,b4,b5,hx,hrp,hk,hrb,hD1,w1,w2,z,hjn,hx',hk']
     rw [zAa];rotate_left;kernel_rfl
     simp -implicitDefEqProofs (maxSteps:=1000000) (disch:=first|rfl|omega|assumption) only [go_sem,g20,g26,g27,g31,g33,g34,g35,g243,g244,g245,ltT,ltF,leT,hk',s1,s2,t1,t2,t4,t5,t6,t7,t8,a1,a2,a3,a4,a5,b1,b2,b3,b4,b5,hx,hrp,hk,hrb,hx',hk',hpe,hge,ld_ne,ld_eq]
     rw [zAa];rotate_left;kernel_rfl
     simp -implicitDefEqProofs (maxSteps:=1000000) (disch:=first|rfl|omega|assumption) only [go_sem,g20,g26,g27,g31,g33,g34,g35,g243,g244,g245,ltT,ltF,leT,hk',s1,s2,t1,t2,t4,t5,t6,t7,t8,hD2,hD3,w3,w4]
     exact key _ _ (by rfl) (by rfl) (by rfl) (by rfl) (by rfl) (by rfl) (by rfl) (by rfl) (by rfl) (by rfl)
    ·simp only [Bk.fc,show ((0:Int)).toNat=0 from rfl,show ((1:Int)).toNat=1 from rfl,Nat.sub_zero,Nat.sub_self,if_true,show ¬ (1:Nat)=0 by decide,if_false] at c1 c2 i1 i2
     have d2:=draw_bd (us:=us) (a:=a+1+1) (show f1≤f2 by omega)
     have hD2:=fun G=>hD (a+1) f1 f2 G (by omega) (by omega)
     have d3:=draw_bd (us:=us) (a:=a+1+1+1) (show f1'≤f2' by omega)
     have hD3:=fun G=>hD (a+1+1) f1' f2' G (by omega) (by omega)
     generalize drawZ us (a+1+1) f1 f2=e2 at *
     generalize drawZ us (a+1+1+1) f1' f2'=e3 at *
     have c3:f3=0:=by omega
     have c4:f3'=0:=by omega
     subst c3
     subst c4
     have w3:IntKind.i64.wrap (e2+e3)=e2+e3:=w64 (by omega) (by omega)
     have w4:IntKind.i64.wrap (thick+(e2+e3))=thick+(e2+e3):=w64 (by omega) (by omega)
     have e9:a+1+1+1=a+3:=by omega
     rw [e9] at hD3
     have key:=fun G=>key G (thick+(e2+e3)) (by omega) (by omega) (by omega) (by omega) (by omega)
     simp only [zA6,zA4,zA5,zA7,zA3,↓reduceIte,Option.some.injEq,Nat.reduceEqDiff,reduceCtorEq,Tryz.f3]
     rw [zA0]
     simp -implicitDefEqProofs (maxSteps:=1000000) (disch:=first|rfl|omega|assumption) only [go_sem,g20,g26,g27,g31,g33,g34,g35,g243,g244,g245,ltT,ltF,leT,hk',s1,s2,t1,t2,t4,t5,t6,t7,t8,a1,a2,a3,a4,a5,b1,b2,b3,b4,b5,hx,hrp,hk,hrb,hD1,w1,w2,z,hjn,hx',hk']
     rw [zAa];rotate_left;kernel_rfl
     simp -implicitDefEqProofs (maxSteps:=1000000) (disch:=first|rfl|omega|assumption) only [go_sem,g20,g26,g27,g31,g33,g34,g35,g243,g244,g245,ltT,ltF,leT,hk',s1,s2,t1,t2,t4,t5,t6,t7,t8,a1,a2,a3,a4,a5,b1,b2,b3,b4,b5,hx,hrp,hk,hrb,hx',hk',hpe,hge,ld_ne,ld_eq]
     rw [zAa];rotate_left;kernel_rfl
     simp -implicitDefEqProofs (maxSteps:=1000000) (disch:=first|rfl|omega|assumption) only [go_sem,g20,g26,g27,g31,g33,g34,g35,g243,g244,g245,ltT,ltF,leT,hk',s1,s2,t1,t2,t4,t5,t6,t7,t8,hD2,hD3,w3,w4]
     exact key _ _ (by rfl) (by rfl) (by rfl) (by rfl) (by rfl) (by rfl) (by rfl) (by rfl) (by rfl) (by rfl)
   ·rcases hu' with rfl | rfl
    ·simp only [Bk.fc,show ((0:Int)).toNat=0 from rfl,show ((1:Int)).toNat=1 from rfl,Nat.sub_zero,Nat.sub_self,if_true,show ¬ (1:Nat)=0 by decide,if_false] at c1 c2 i1 i2
     have d2:=draw_bd (us:=us) (a:=a+1+1) (show f4≤f5 by omega)
     have hD2:=fun G=>hD (a+1) f4 f5 G (by omega) (by omega)
     have d3:=draw_bd (us:=us) (a:=a+1+1+1) (show f4'≤f5' by omega)
     have hD3:=fun G=>hD (a+1+1) f4' f5' G (by omega) (by omega)
     generalize drawZ us (a+1+1) f4 f5=e2 at *
     generalize drawZ us (a+1+1+1) f4' f5'=e3 at *
     have c3:f6=0:=by omega
     have c4:f6'=0:=by omega
     subst c3
     subst c4
     have w3:IntKind.i64.wrap (e2+e3)=e2+e3:=w64 (by omega) (by omega)
     have w4:IntKind.i64.wrap (thick+(e2+e3))=thick+(e2+e3):=w64 (by omega) (by omega)
     have e9:a+1+1+1=a+3:=by omega
     rw [e9] at hD3
     have key:=fun G=>key G (thick+(e2+e3)) (by omega) (by omega) (by omega) (by omega) (by omega)
     simp only [zA6,zA4,zA5,zA7,zA3,↓reduceIte,Option.some.injEq,Nat.reduceEqDiff,reduceCtorEq,Tryz.f3]
     rw [zA0]
     simp -implicitDefEqProofs (maxSteps:=1000000) (disch:=first|rfl|omega|assumption) only [go_sem,g20,g26,g27,g31,g33,g34,g35,g243,g244,g245,ltT,ltF,leT,hk',s1,s2,t1,t2,t4,t5,t6,t7,t8,a1,a2,a3,a4,a5,b1,b2,b3,b4,b5,hx,hrp,hk,hrb,hD1,w1,w2,z,hjn,hx',hk']
     rw [zAa];rotate_left;kernel_rfl
     simp -implicitDefEqProofs (maxSteps:=1000000) (disch:=first|rfl|omega|assumption) only [go_sem,g20,g26,g27,g31,g33,g34,g35,g243,g244,g245,ltT,ltF,leT,hk',s1,s2,t1,t2,t4,t5,t6,t7,t8,a1,a2,a3,a4,a5,b1,b2,b3,b4,b5,hx,hrp,hk,hrb,hx',hk',hpe,hge,ld_ne,ld_eq]
     rw [zAa];rotate_left;kernel_rfl
     simp -implicitDefEqProofs (maxSteps:=1000000) (disch:=first|rfl|omega|assumption) only [go_sem,g20,g26,g27,g31,g33,g34,g35,g243,g244,g245,ltT,ltF,leT,hk',s1,s2,t1,t2,t4,t5,t6,t7,t8,hD2,hD3,w3,w4]
     exact key _ _ (by rfl) (by rfl) (by rfl) (by rfl) (by rfl) (by rfl) (by rfl) (by rfl) (by rfl) (by rfl)
    ·simp only [Bk.fc,show ((0:Int)).toNat=0 from rfl,show ((1:Int)).toNat=1 from rfl,Nat.sub_zero,Nat.sub_self,if_true,show ¬ (1:Nat)=0 by decide,if_false] at c1 c2 i1 i2
     have d2:=draw_bd (us:=us) (a:=a+1+1) (show f4≤f5 by omega)
     have hD2:=fun G=>hD (a+1) f4 f5 G (by omega) (by omega)
     have d3:=draw_bd (us:=us) (a:=a+1+1+1) (show f1'≤f2' by omega)
     have hD3:=fun G=>hD (a+1+1) f1' f2' G (by omega) (by omega)
     generalize drawZ us (a+1+1) f4 f5=e2 at *
     generalize drawZ us (a+1+1+1) f1' f2'=e3 at *
     have c3:f6=0:=by omega
     have c4:f3'=0:=by omega
     subst c3
     subst c4
     have w3:IntKind.i64.wrap (e2+e3)=e2+e3:=w64 (by omega) (by omega)
     have w4:IntKind.i64.wrap (thick+(e2+e3))=thick+(e2+e3):=w64 (by omega) (by omega)
     have e9:a+1+1+1=a+3:=by omega
     rw [e9] at hD3
     have key:=fun G=>key G (thick+(e2+e3)) (by omega) (by omega) (by omega) (by omega) (by omega)
     simp only [zA6,zA4,zA5,zA7,zA3,↓reduceIte,Option.some.injEq,Nat.reduceEqDiff,reduceCtorEq,Tryz.f3]
     rw [zA0]
     simp -implicitDefEqProofs (maxSteps:=1000000) (disch:=first|rfl|omega|assumption) only [go_sem,g20,g26,g27,g31,g33,g34,g35,g243,g244,g245,ltT,ltF,leT,hk',s1,s2,t1,t2,t4,t5,t6,t7,t8,a1,a2,a3,a4,a5,b1,b2,b3,b4,b5,hx,hrp,hk,hrb,hD1,w1,w2,z,hjn,hx',hk']
     rw [zAa];rotate_left;kernel_rfl
     simp -implicitDefEqProofs (maxSteps:=1000000) (disch:=first|rfl|omega|assumption) only [go_sem,g20,g26,g27,g31,g33,g34,g35,g243,g244,g245,ltT,ltF,leT,hk',s1,s2,t1,t2,t4,t5,t6,t7,t8,a1,a2,a3,a4,a5,b1,b2,b3,b4,b5,hx,hrp,hk,hrb,hx',hk',hpe,hge,ld_ne,ld_eq]
     rw [zAa];rotate_left;kernel_rfl
     simp -implicitDefEqProofs (maxSteps:=1000000) (disch:=first|rfl|omega|assumption) only [go_sem,g20,g26,g27,g31,g33,g34,g35,g243,g244,g245,ltT,ltF,leT,hk',s1,s2,t1,t2,t4,t5,t6,t7,t8,hD2,hD3,w3,w4]
     exact key _ _ (by rfl) (by rfl) (by rfl) (by rfl) (by rfl) (by rfl) (by rfl) (by rfl) (by rfl) (by rfl)
theorem pol_zero (w:Wg):w.pol 0=w:=by
 have hb:∀ (i:Nat) (b:Bk),polB 0 i b=b:=fun i b=>by simp [polB]
 have key:∀ (q j:Nat) (M:List Bk),foldF (polS 0) M j q=M:=by
  intro q
  induction q with
  | zero=>intro j M;rfl
  | succ q ih =>
   intro j M
   have e:polS 0 M j=M:=by simp only [polS,hb,set_self']
   simp only [foldF,e]
   exact ih _ _
 obtain ⟨bs,ps⟩:=w
 simp only [Wg.pol,polL,key]
theorem can_pol {w:Wg} (s:Nat):(w.pol s).can false=w.canP s:=by
 simp only [Wg.can,Wg.canP,Wg.full,pol_n]
theorem polish_hope {w:Wg} (ho:w.Ok):(∃ x,w.polish=(((pop x:Nat):Int),(x:Int),0)∧x<1024∧(w.pol x).can false=true∧w.hope.2=0∧(((pop x:Nat):Int)==0)=(w.hope.1==2))∨(w.polish=(0,0,4)∧w.hope.2=0∧(w.hope.1==2)=false):=by
 have hv:=(w.valid_iff).2 ho
 have h5:=ho.n.2
 simp only [Wg.n] at h5
 have h0:w.canP 0=w.can false:=by rw [← can_pol,pol_zero]
 have hp:=pow_le (show 2*w.bs.length≤10 by omega)
 have hpos:0<2^(2*w.bs.length):=Nat.pow_pos (by omega)
 have hh:w.hope.2=0∧(w.hope.1==2)=w.can false:=by
  simp only [Wg.hope,hv,if_true]
  cases w.can false
  ·cases w.can true<;>exact ⟨rfl,rfl⟩
  ·exact ⟨rfl,rfl⟩
 rw [hh.2]
 rcases polishS_is ho with ⟨k1,k2⟩ | ⟨x,k1,k2,k3,k4⟩
 ·refine .inr ⟨by simp only [Wg.polish,hv,if_true,k1],hh.1,?_⟩
  rw [← h0];exact k2 0 hpos
 ·refine .inl ⟨x,by simp only [Wg.polish,hv,if_true,k1],by omega,by rw [can_pol];exact k2,hh.1,?_⟩
  rw [Bool.eq_iff_iff,beq_iff_eq]
  constructor
  ·intro e
   have:x=0:=pop_pos x (by omega) (by omega)
   rw [← h0,← this];exact k2
  ·intro e
   rw [← h0] at e
   have:=k4 0 hpos e
   rw [show pop 0=0 from by decide] at this
   omega
theorem law_TopWrung {w:Wg} {vb va:AV} (h:WgAt H w vb va) {a b:Int} (ha:0≤a∧a≤65535) (hb:0≤b∧b≤255) (fl:Bool) (us:List Int) (hu:∀ i,i<us.length→0≤us.getD i 0∧us.getD i 0≤65535) (hul:us.length≤9223372036854775807) :
  zA9 cfg0 zA2 false 3 [.agg [vb,va],.int .u16 a,.int .u8 b,.sl fl (us.map B16)] H none=some ⟨.ret (.bool true),H,none⟩:=by
 have hk':True:=trivial
 have s1:=h.bs.scal
 have s2:=h.ps.scal
 have t1:=h.bs.ltn 1
 have t2:=h.ps.ltn 1
 have t1':=h.bs.ltn 2
 have t2':=h.ps.ltn 2
 have t4:=fun N=>lt16 us N
 have l1:=h.bs.len
 rw [List.length_map] at l1
 have l2:=h.ps.len
 rw [List.length_map] at l2
 obtain ⟨M,hM⟩:∃ M:Int,(if (w.bs.length:Int)<w.ps.length then (w.ps.length:Int) else w.bs.length)=M:=⟨_,rfl⟩
 have hMb:(w.bs.length:Int)≤M∧(w.ps.length:Int)≤M:=by
  rw [← hM]
  split<;>omega
 by_cases c0:40<M
 ·skip
  refine (zA1 fn3 rfl (by simp [Tryz.f3])).trans ?_
  simp -implicitDefEqProofs (maxSteps:=1000000) (disch:=first|rfl|omega|assumption) only [go_sem,ltT,ltF,leT,s1,s2,l1,l2,hM,c0,law_awake5]
  done
 have hW:=fun G:Heap=>ref_Wring (h.app G) (by omega)
 cases c1:w.valid
 ·rw [c1] at hW
  refine (zA1 fn3 rfl (by simp [Tryz.f3])).trans ?_
  simp -implicitDefEqProofs (maxSteps:=1000000) (disch:=first|rfl|omega|assumption) only [go_sem,ltT,ltF,leT,s1,s2,l1,l2,hM,c0,hW,law_awake5]
  done
 rw [c1] at hW
 have ho:=(w.valid_iff).1 c1
 have h5:=ho.n.2
 simp only [Wg.n] at h5
 have hsp:=fun G:Heap=>fun a b=>law_span a b G
 have q5:=tw_l5 ho h a b fl us w.fmA
 have tl:∀ N,ltL N (w.lens.map spA)=true:=fun N=>spLt _ _
 have ll:(w.lens.map spA).length=w.bs.length:=by rw [List.length_map,lens_len]
 have hsl:∀ G:Heap,SlOk G 2 (.sl false (w.lens.map spA)) (w.lens.map spA):=fun G=>⟨rfl,fun x hx=>by obtain ⟨i,_,rfl⟩:=List.mem_map.1 hx;rfl⟩
 have hSt:=fun G:Heap=>ref_Stack (hsl G) (film:=w.fmA) (by rw [lens_len];omega)
 cases c2:stB w.lens w.fmA
 ·rw [c2] at hSt
  refine (zA1 fn3 rfl (by simp [Tryz.f3])).trans ?_
  simp -implicitDefEqProofs (maxSteps:=1000000) (disch:=first|rfl|omega|assumption) only [go_sem,ltT,ltF,leT,s1,s2,t1,t2,t1',t2',t4,l1,l2,hM,c0,hW,hsp]
  refine q5 _ _ (fun E g1 g2 g3 g4 g9=>?_) w.bs.length 0 (by omega) [] (5,0) rfl _ (by rfl) (by rfl) (by rfl) (by rfl) (by rfl) (by rfl) (by rfl) (by rfl)
  simp -implicitDefEqProofs (maxSteps:=1000000) (disch:=first|rfl|omega|assumption) only [go_sem,g1,g2,g3,g4,g9,ltT,ltF,leT,hk',s1,s2,t1,t2,t1',t2',t4,tl,ll,hSt,law_awake5]
  done
 rw [c2] at hSt
 obtain ⟨x,hx⟩:∃ x,a%700=x:=⟨_,rfl⟩
 have hx1:0≤x∧x<700:=by omega
 have hx2:a.tmod 700=x:=by rw [Int.tmod_eq_emod_of_nonneg ha.1];exact hx
 have hxw:IntKind.i64.wrap a=a:=w64 (by omega) (by omega)
 have hbw:IntKind.i64.wrap b=b:=w64 (by omega) (by omega)
 have hxb:IntKind.i64.wrap (x+b)=x+b:=w64 (by omega) (by omega)
 have hF:=fun G:Heap=>st_Fewest (stB_ok (hsl G) c2) (w:=(x,x+b)) (by simp only;omega)
 by_cases c3:sureL w.lens w.fmA (x,x+b)=[]
 ·simp only [c3,if_true] at hF
  refine (zA1 fn3 rfl (by simp [Tryz.f3])).trans ?_
  simp -implicitDefEqProofs (maxSteps:=1000000) (disch:=first|rfl|omega|assumption) only [go_sem,ltT,ltF,leT,s1,s2,t1,t2,t1',t2',t4,l1,l2,hM,c0,hW,hsp]
  refine q5 _ _ (fun E g1 g2 g3 g4 g9=>?_) w.bs.length 0 (by omega) [] (5,0) rfl _ (by rfl) (by rfl) (by rfl) (by rfl) (by rfl) (by rfl) (by rfl) (by rfl)
  simp -implicitDefEqProofs (maxSteps:=1000000) (disch:=first|rfl|omega|assumption) only [go_sem,g1,g2,g3,g4,g9,ltT,ltF,leT,hk',s1,s2,t1,t2,t1',t2',t4,tl,ll,hSt,hsp,hF,hx2,hxw,hbw,hxb,law_awake5]
  done
 simp only [c3,if_false] at hF
 obtain ⟨f1,f2,f3,f4⟩:=fewS_in c3
 simp only [lens_len] at f2 f3 f4
 have hLg:=fun G:Heap=>st_Long (stB_ok (hsl G) c2) f1 (by rw [lens_len];exact f2)
 simp only [lens_len] at hLg
 generalize fewS w.lens w.fmA (x,x+b)=s at *
 have hs60:s<2^60:=Nat.lt_of_lt_of_le f2 (Nat.pow_le_pow_right (by omega) (by omega))
 have hs32:s<1024:=by
  have:=pow_le (show w.bs.length≤10 by omega)
  omega
 have hOn:=fun G:Heap=>law_only (h.app G) ho hs60
 have hxo:(w.only s).Ok:=only_ok ho f2 (by omega)
 have hxn:=hxo.n.2
 simp only [Wg.n] at hxn
 have hxp:=hxo.np
 have hat:∀ G:Heap,WgAt G (w.only s) (.sl false ((w.only s).bs.map Bk.av)) (.sl false ((w.only s).ps.map Ap.av)):=fun G=>⟨⟨rfl,fun x hx=>by obtain ⟨i,_,rfl⟩:=List.mem_map.1 hx;rfl⟩,⟨rfl,fun x hx=>by obtain ⟨i,_,rfl⟩:=List.mem_map.1 hx;rfl⟩⟩
 have hHo:=fun G:Heap=>wr_Hope (hat G) ⟨by omega,by omega⟩
 have hPo:=fun G:Heap=>wr_Polish (hat G) ⟨by omega,by omega⟩
 have tb:∀ N,ltL N ((w.only s).bs.map Bk.av)=true:=fun N=>zAx (fun _=>rfl) _
 have tp:∀ N,ltL N ((w.only s).ps.map Ap.av)=true:=fun N=>zAx (fun _=>rfl) _
 rcases polish_hope hxo with ⟨k,k1,k2,k3,k4,k5⟩ | ⟨k1,k4,k5⟩
 ·rw [k1] at hPo
  rw [k4] at hHo
  simp only at hPo
  have hPd:=fun G:Heap=>ref_Polished (hat G) hxn k (by omega)
  have hy:=pol_ok hxo k
  have hyn:=hy.n.2
  simp only [Wg.n] at hyn
  have hyp:=hy.np
  have hyat:∀ G:Heap,WgAt G ((w.only s).pol k) (bkV ((w.only s).pol k).bs) (.sl false ((w.only s).ps.map Ap.av)):=fun G=>pol_at (hat G) k
  have hBe:=fun G:Heap=>wr_Best (hyat G) ⟨by omega,by omega⟩
  obtain ⟨b1,b2,b3,b4,b5⟩:=best_is hy k3
  rw [b1,← b5] at hBe
  clear b1 b5
  generalize ((w.only s).pol k).bestL ((w.only s).pol k).bs.length ((w.only s).pol k).full=l at *
  have hyv:=(Wg.valid_iff _).2 hy
  have hl5:l.length≤5:=by omega
  have hHd:=fun G:Heap=>wr_Holds (hyat G) ⟨by omega,by omega⟩ false l (by omega)
  have hLn:=fun G:Heap=>wr_Length (hyat G) ⟨by omega,by omega⟩ false l (by omega)
  rw [holds_is hyv b2,b3] at hHd
  rw [length_is hyv b2] at hLn
  simp only [if_true] at hHd
  simp only [plA] at hBe
  have hpn:=sel_pop w.bs.length (by omega) s f2
  have hlp:pop s=l.length:=by rw [b4,pol_n,only_n,hpn]
  have hSz:=fun G:Heap=>ref_Size hs32 G
  rw [hlp] at hSz
  obtain ⟨i1,i2⟩:=len_in b2 b4
  have i3:=flm_sum ((w.only s).pol k) l
  have i4:=congrArg Prod.fst i3
  have i5:=congrArg Prod.snd i3
  simp only at i4 i5
  clear i3
  have q38:=tw_l38 hy h fl hu hul w.fmA x (x+b) (lgN w.lens w.fmA w.bs.length s).lo (lgN w.lens w.fmA w.bs.length s).hi b2 b3 hl5
  generalize (((w.only s).pol k).flm l).1=C at *
  generalize (((w.only s).pol k).flm l).2=F at *
  generalize hS1:sumF (fun i=>(((w.only s).pol k).b (pcA l i).b.toNat).lo) 0 l.length=S1 at *
  generalize hS2:sumF (fun i=>(((w.only s).pol k).b (pcA l i).b.toNat).hi) 0 l.length=S2 at *
  have q:=fun G=>q38 (C+S1) (F+S2) F C l.length 0 (by omega) G 0 0 0 (by omega) (by omega) (by omega) (by omega) (by omega)
  clear q38
  simp only [bkV] at hPd hBe hHd hLn q
  have tyb:∀ N,ltL N (((w.only s).pol k).bs.map Bk.av)=true:=fun N=>zAx (fun _=>rfl) _
  have hDr:=fun G:Heap=>law_draws (.sl fl (us.map B16)) rfl ⟨_,_,rfl⟩ G
  have tl8:∀ N,ltL N (l.map Pc.av)=true:=fun N=>zAx (fun _=>rfl) _
  have ml:(l.map Pc.av).length=l.length:=List.length_map _
  have z0:((l.length:Int) != (l.length:Int))=false:=by simp
  obtain ⟨f3',f4'⟩:x≤(lgN w.lens w.fmA w.bs.length s).lo∧(lgN w.lens w.fmA w.bs.length s).hi≤x+b:=⟨f3,f4⟩
  generalize (lgN w.lens w.fmA w.bs.length s).lo=llo at *
  generalize (lgN w.lens w.fmA w.bs.length s).hi=lhi at *
  cases hp:(w.only s).hope.1==2<;>rw [hp] at k5
  all_goals
   refine (zA1 fn3 rfl (by simp [Tryz.f3])).trans ?_
   simp -implicitDefEqProofs (maxSteps:=1000000) (disch:=first|rfl|omega|assumption) only [go_sem,ltT,ltF,leT,s1,s2,t1,t2,t1',t2',t4,l1,l2,hM,c0,hW,hsp]
   refine q5 _ _ (fun E g1 g2 g3 g4 g9=>?_) w.bs.length 0 (by omega) [] (5,0) rfl _ (by rfl) (by rfl) (by rfl) (by rfl) (by rfl) (by rfl) (by rfl) (by rfl)
   simp -implicitDefEqProofs (maxSteps:=1000000) (disch:=first|rfl|omega|assumption) only [go_sem,g1,g2,g3,g4,g9,ltT,ltF,leT,hk',s1,s2,t1,t2,t1',t2',t4,tl,ll,hSt,hsp,hF,hx2,hxw,hbw,hxb,hLg,hOn,hHo,hPo,k5,hp,tb,tp,hPd,hBe,hHd,hLn,hSz,z0,ml,hDr,tyb,tl8]
   exact q _ _ (by rfl) (by rfl) (by rfl) (by rfl) (by rfl) (by rfl) (by rfl) (by rfl) (by rfl) (by rfl)
 ·rw [k1] at hPo
  rw [k4] at hHo
  simp only at hPo
  refine (zA1 fn3 rfl (by simp [Tryz.f3])).trans ?_
  simp -implicitDefEqProofs (maxSteps:=1000000) (disch:=first|rfl|omega|assumption) only [go_sem,ltT,ltF,leT,s1,s2,t1,t2,t1',t2',t4,l1,l2,hM,c0,hW,hsp]
  refine q5 _ _ (fun E g1 g2 g3 g4 g9=>?_) w.bs.length 0 (by omega) [] (5,0) rfl _ (by rfl) (by rfl) (by rfl) (by rfl) (by rfl) (by rfl) (by rfl) (by rfl)
  simp -implicitDefEqProofs (maxSteps:=1000000) (disch:=first|rfl|omega|assumption) only [go_sem,g1,g2,g3,g4,g9,ltT,ltF,leT,hk',s1,s2,t1,t2,t1',t2',t4,tl,ll,hSt,hsp,hF,hx2,hxw,hbw,hxb,hLg,hOn,hHo,hPo,k5,tb,tp,law_awake5]
  done
end Go.Ab
