/- The shop: its cells, the map of those that must be apart; isBlock, joint, film. -/
import Derived.Test.YtcnfneofbflimaaGreatKK4
import Derived.Test.YtcnfneofbflimaaGreatKK0
import Derived.ProofKit
import Derived.OpenShut
namespace Go.Ab
open Go.Proofs
set_option linter.unusedSimpArgs false
set_option linter.unusedVariables false
set_option maxRecDepth 100000
set_option maxHeartbeats 2000000
variable {H:Heap}
theorem lookup_put {k k' v:AV}:∀ es:List (AV×AV),zAk k (putM k' v es)=if k.same k' then some v else zAk k es
 | []=>by simp only [putM,zAk]
 | (x,y)::r=>by
  simp only [putM]
  by_cases hx:k'.same x=true
  ·have e:=same_eq _ _ hx
   subst e
   rw [if_pos hx]
   simp only [zAk]
   cases k.same k'<;>rfl
  ·rw [if_neg hx]
   simp only [zAk,lookup_put r]
   by_cases h:k.same k'=true
   ·have e:=same_eq _ _ h
    subst e
    have:k.same x=false:=by simpa using hx
    simp [this,h]
   ·simp [h]
def pk (x y:Int):AV:=.agg [I x,I y]
theorem pk_same {x y a b:Int}:(pk x y).same (pk a b)=(x==a&&y==b):=by simp [pk,AV.same,zBb]
def apS (es:List (AV×AV)) (a:Ap):List (AV×AV):=putM (pk a.b a.a) (.bool true) (putM (pk a.a a.b) (.bool true) es)
def apM (l:List Ap):List (AV×AV):=l.foldl apS []
def apE (x y:Int) (a:Ap):Bool:=(a.a==x&&a.b==y)||(a.b==x&&a.a==y)
def Wg.ap (w:Wg) (x y:Int):Bool:=w.ps.any (apE x y)
theorem apS_look (x y:Int):∀ (l:List Ap) (es:List (AV×AV)),zAk (pk x y) (l.foldl apS es)=if l.any (apE x y) then some (.bool true) else zAk (pk x y) es
 | [],es=>by simp
 | a::r,es=>by
  rw [List.foldl_cons,apS_look x y r,apS,lookup_put,lookup_put,pk_same,pk_same]
  simp only [List.any_cons]
  by_cases hr:r.any (apE x y)=true
  ·simp [hr]
  ·have hr:r.any (apE x y)=false:=by simpa using hr
   simp only [hr,Bool.or_false,Bool.false_eq_true,if_false]
   by_cases h1:x=a.b∧y=a.a
   ·have:apE x y a=true:=by simp [apE,h1.1,h1.2]
    have e1:(x==a.b&&y==a.a)=true:=by simp [h1.1,h1.2]
    simp only [e1,this,if_true]
   ·by_cases h2:x=a.a∧y=a.b
    ·have:apE x y a=true:=by simp [apE,h2.1,h2.2]
     have e1:(x==a.a&&y==a.b)=true:=by simp [h2.1,h2.2]
     simp only [e1,this,if_true,ite_self]
    ·have:apE x y a=false:=by
      simp only [apE,Bool.or_eq_false_iff,Bool.and_eq_false_iff,beq_eq_false_iff_ne]
      constructor
      ·by_cases e:a.a=x
       ·right;rintro rfl;exact h2 ⟨e.symm,rfl⟩
       ·left;exact e
      ·by_cases e:a.b=x
       ·right;rintro rfl;exact h1 ⟨e.symm,rfl⟩
       ·left;exact e
     have e1:(x==a.b&&y==a.a)=false:=by
      rw [Bool.and_eq_false_iff];simp only [beq_eq_false_iff_ne]
      by_cases e:x=a.b
      ·right;exact fun e'=>h1 ⟨e,e'⟩
      ·left;exact e
     have e2:(x==a.a&&y==a.b)=false:=by
      rw [Bool.and_eq_false_iff];simp only [beq_eq_false_iff_ne]
      by_cases e:x=a.a
      ·right;exact fun e'=>h2 ⟨e,e'⟩
      ·left;exact e
     simp [e1,e2,this]
theorem apM_look (w:Wg) (x y:Int):zAk (pk x y) (apM w.ps)=if w.ap x y then some (.bool true) else none:=by
 rw [apM,apS_look];rfl
def shC (vb va:AV) (fc:List AV) (vv:AV) (m:Nat):List AV:=vb::va::(fc++[vv,.map m])
section
variable {vb va vv:AV} {fc:List AV} {m:Nat}
theorem shC_len (h:fc.length=30):(shC vb va fc vv m).length=34:=by simp [shC,h]
theorem tk_sh (h:fc.length=30):List.take 34 (shC vb va fc vv m)=shC vb va fc vv m:=List.take_of_length_le (by rw [shC_len h];exact Nat.le_refl _)
theorem tk_fcs (h:fc.length=30):List.take 30 (List.drop 2 (shC vb va fc vv m))=fc:=by
 simp [shC,List.take_left' h]
theorem rd_vb:(shC vb va fc vv m)[0]? = some vb:=rfl
theorem rd_vv (h:fc.length=30):(shC vb va fc vv m)[32]? = some vv:=by
 simp only [shC]
 simp [h]
theorem rd_mp (h:fc.length=30):(shC vb va fc vv m)[33]? = some (.map m):=by
 simp only [shC]
 simp [h]
theorem shC_sc (h:zAb fc=true) (h1:vb.scalar=true) (h2:va.scalar=true) (h3:vv.scalar=true):zAb (shC vb va fc vv m)=true:=by
 have key:∀ l:List AV,zAb l=true→zAb (l++[vv,.map m])=true:=by
  intro l
  induction l with
  | nil=>intro _;simp only [List.nil_append,zAb,h3,Bool.true_and];rfl
  | cons x r ih =>
   intro hl
   simp only [zAb,Bool.and_eq_true,List.cons_append] at hl ⊢
   exact ⟨hl.1,ih hl.2⟩
 simp only [shC,zAb,Bool.and_eq_true]
 exact ⟨h1,h2,key fc h⟩
theorem wp_view (h:fc.length=30) {v':AV} (h1:v'.scalar=true) (h2:v'.cells=[v']) {ty:Ty} (h3:ty.size=1):zBc (.agg (shC vb va fc vv m)) 32 v' ty=some (.agg (shC vb va fc v' m)):=by
 have e:(AV.agg (shC vb va fc vv m)).cells=shC vb va fc vv m:=rfl
 simp only [zBc,h2,h3,zAb,h1,e,shC_len h,List.length_cons,List.length_nil]
 simp only [AV.withCells,splice,shC]
 have e3:List.drop 31 (fc++[vv,AV.map m])=[AV.map m]:=by rw [show 31=fc.length+1 by omega,List.drop_length_add_append];rfl
 simp [h,e3]
attribute [go_sem] shC_len tk_sh tk_fcs rd_vb rd_vv rd_mp zBv fcsN_sc List.drop_zero
end
def updF (g:Nat→Bk) (i:Nat) (b:Bk):Nat→Bk:=fun j=>if j=i then b else g j
theorem wp_face {vb va vv:AV} {m:Nat} (g:Nat→Bk) (b:Bk) {i:Nat} (hi:i<5) {ty:Ty} (h:ty.size=6):zBc (.agg (shC vb va (fcsN g) vv m)) (2+i*6) (.agg b.fcs) ty=some (.agg (shC vb va (fcsN (updF g i b)) vv m)):=by
 have h1:i=0∨i=1∨i=2∨i=3∨i=4:=by omega
 have e:zAb (AV.agg b.fcs).cells=true:=rfl
 have e2:(AV.agg b.fcs).cells.length=6:=rfl
 simp only [zBc,e,e2,h,AV.cells,shC_len (zBv g),Bool.true_and]
 rcases h1 with rfl | rfl | rfl | rfl | rfl<;>rfl
structure ShAt (H:Heap) (l m:Nat) (w:Wg) (b:Bool) (vb va:AV):Prop where
 box:H[l]? = some (.box (.agg (shC vb va (fcsN w.b) (vwA b) m)))
 map:H[m]? = some (.map 66 (apM w.ps))
 wat:WgAt H w vb va
theorem ShAt.app {l m:Nat} {w:Wg} {b:Bool} {vb va:AV} (h:ShAt H l m w b vb va) (G:Heap):ShAt (H++G) l m w b vb va :=
 ⟨by rw [List.getElem?_append_left (List.getElem?_eq_some_iff.1 h.box).1];exact h.box,by rw [List.getElem?_append_left (List.getElem?_eq_some_iff.1 h.map).1];exact h.map,h.wat.app G⟩
theorem wr_isBlock {l m:Nat} {vb va vv:AV} {fc:List AV} {n:Nat} (hl:H[l]? = some (.box (.agg (shC vb va fc vv m)))) (hf:fc.length=30) (hn:evLen vb=some (I n)) (hb:n≤1000) (x:Int) :
  zA9 cfg0 zA2 false 70 [.ptr l 0,I x] H none=some ⟨.ret (.bool (wi x 0 ((n:Int)-1))),H,none⟩:=by
 refine (zA1 fn70 rfl (by simp [Tryz.f70])).trans ?_
 simp -implicitDefEqProofs (maxSteps:=1000000) (disch:=first|rfl|omega|assumption) only [go_sem,ltT,ltF,leT,hl,rd_vb,hn,zAw]
def Wg.pok (w:Wg) (x:Pc):Prop:=0≤x.b∧x.b<w.n∧0≤x.u∧x.u≤1
def Wg.fa (w:Wg) (x:Pc):Fc:=(w.b x.b.toNat).fc x.u.toNat
def Wg.fb (w:Wg) (x:Pc):Fc:=(w.b x.b.toNat).fc (1-x.u.toNat)
def Wg.jt (w:Wg) (b:Bool) (x y:Pc):Int:=if w.ap x.b y.b then 1 else if (w.fa x).st≤lvl b then (if (w.fb y).st≤lvl b then 0 else 2) else 2
theorem wr_fa {w:Wg} (hn:w.n≤5) {x:Pc} (hx:w.pok x) (H:Heap):zA9 cfg0 zA2 false 56 [.agg (fcsN w.b),x.av] H none=some ⟨.ret (w.fa x).av,H,none⟩:=by
 obtain ⟨h1,h2,h3,h4⟩:=hx
 have:=wr_above w.b (i:=x.b.toNat) (k:=x.u.toNat) (by omega) (by omega) H
 rw [Int.toNat_of_nonneg h1,Int.toNat_of_nonneg h3] at this
 exact this
theorem wr_fb {w:Wg} (hn:w.n≤5) {x:Pc} (hx:w.pok x) (H:Heap):zA9 cfg0 zA2 false 57 [.agg (fcsN w.b),x.av] H none=some ⟨.ret (w.fb x).av,H,none⟩:=by
 obtain ⟨h1,h2,h3,h4⟩:=hx
 have:=wr_below w.b (i:=x.b.toNat) (k:=x.u.toNat) (by omega) (by omega) H
 rw [Int.toNat_of_nonneg h1,Int.toNat_of_nonneg h3] at this
 exact this
theorem wr_joint {l m:Nat} {w:Wg} {b:Bool} {vb va:AV} (h:ShAt H l m w b vb va) (hn:w.n≤5) {x y:Pc} (hx:w.pok x) (hy:w.pok y) :
  zA9 cfg0 zA2 false 78 [.ptr l 0,x.av,y.av] H none=some ⟨.ret (I (w.jt b x y)),H,none⟩:=by
 have hl:=h.box
 have hm:=h.map
 have e1:=zBv w.b
 have hlk:=apM_look w x.b y.b
 have ha:=wr_fa hn hx
 have hb:=wr_fb hn hy
 have hw1:=fun (b0:Nat) G=>wr_whole (b0:=b0) b (w.fa x) G
 have hw2:=fun (b0:Nat) G=>wr_whole (b0:=b0) b (w.fb y) G
 have ll:l<H.length:=(List.getElem?_eq_some_iff.1 hl).1
 have lm:m<H.length:=(List.getElem?_eq_some_iff.1 hm).1
 have hl':=fun G:Heap=>(h.app G).box
 have hm':=fun G:Heap=>(h.app G).map
 simp only [Wg.jt]
 simp only [pk] at hlk
 cases hap:w.ap x.b y.b
 ·simp only [hap,Bool.false_eq_true,if_false] at hlk ⊢
  by_cases c1:(w.fa x).st≤lvl b
  ·by_cases c2:(w.fb y).st≤lvl b
   ·simp only [c1,c2,decide_true,if_true] at hw1 hw2 ⊢
    generalize w.fa x=fx at *
    generalize w.fb y=fy at *
    obtain ⟨xb,xu⟩:=x
    obtain ⟨yb,yu⟩:=y
    obtain ⟨f1,f2,f3⟩:=fx
    obtain ⟨f4,f5,f6⟩:=fy
    simp only [Pc.av,Fc.av] at ha hb hw1 hw2 hlk ⊢
    cases b
    ·simp only [vwA,Bool.false_eq_true,if_false] at hl hl' hw1 hw2
     refine (zA1 fn78 rfl (by simp [Tryz.f78])).trans ?_
     simp -implicitDefEqProofs (maxSteps:=1000000) (disch:=first|rfl|omega|assumption) only [go_sem,ltT,ltF,leT,hl',hm',hlk]
     rw [zAa];rotate_left;kernel_rfl
     simp -implicitDefEqProofs (maxSteps:=1000000) (disch:=first|rfl|omega|assumption) only [go_sem,ltT,ltF,leT,hl',hm',hlk,ha,hb,hw1,hw2]
     rw [zAa];rotate_left;kernel_rfl
     simp -implicitDefEqProofs (maxSteps:=1000000) (disch:=first|rfl|omega|assumption) only [go_sem,ltT,ltF,leT,hl',hm',hlk,ha,hb,hw1,hw2]
    ·simp only [vwA,if_true] at hl hl' hw1 hw2
     refine (zA1 fn78 rfl (by simp [Tryz.f78])).trans ?_
     simp -implicitDefEqProofs (maxSteps:=1000000) (disch:=first|rfl|omega|assumption) only [go_sem,ltT,ltF,leT,hl',hm',hlk]
     rw [zAa];rotate_left;kernel_rfl
     simp -implicitDefEqProofs (maxSteps:=1000000) (disch:=first|rfl|omega|assumption) only [go_sem,ltT,ltF,leT,hl',hm',hlk,ha,hb,hw1,hw2]
     rw [zAa];rotate_left;kernel_rfl
     simp -implicitDefEqProofs (maxSteps:=1000000) (disch:=first|rfl|omega|assumption) only [go_sem,ltT,ltF,leT,hl',hm',hlk,ha,hb,hw1,hw2]
   ·simp only [c1,c2,decide_true,decide_false,if_true,if_false] at hw1 hw2 ⊢
    generalize w.fa x=fx at *
    generalize w.fb y=fy at *
    obtain ⟨xb,xu⟩:=x
    obtain ⟨yb,yu⟩:=y
    obtain ⟨f1,f2,f3⟩:=fx
    obtain ⟨f4,f5,f6⟩:=fy
    simp only [Pc.av,Fc.av] at ha hb hw1 hw2 hlk ⊢
    cases b
    ·simp only [vwA,Bool.false_eq_true,if_false] at hl hl' hw1 hw2
     refine (zA1 fn78 rfl (by simp [Tryz.f78])).trans ?_
     simp -implicitDefEqProofs (maxSteps:=1000000) (disch:=first|rfl|omega|assumption) only [go_sem,ltT,ltF,leT,hl',hm',hlk]
     rw [zAa];rotate_left;kernel_rfl
     simp -implicitDefEqProofs (maxSteps:=1000000) (disch:=first|rfl|omega|assumption) only [go_sem,ltT,ltF,leT,hl',hm',hlk,ha,hb,hw1,hw2]
     rw [zAa];rotate_left;kernel_rfl
     simp -implicitDefEqProofs (maxSteps:=1000000) (disch:=first|rfl|omega|assumption) only [go_sem,ltT,ltF,leT,hl',hm',hlk,ha,hb,hw1,hw2]
    ·simp only [vwA,if_true] at hl hl' hw1 hw2
     refine (zA1 fn78 rfl (by simp [Tryz.f78])).trans ?_
     simp -implicitDefEqProofs (maxSteps:=1000000) (disch:=first|rfl|omega|assumption) only [go_sem,ltT,ltF,leT,hl',hm',hlk]
     rw [zAa];rotate_left;kernel_rfl
     simp -implicitDefEqProofs (maxSteps:=1000000) (disch:=first|rfl|omega|assumption) only [go_sem,ltT,ltF,leT,hl',hm',hlk,ha,hb,hw1,hw2]
     rw [zAa];rotate_left;kernel_rfl
     simp -implicitDefEqProofs (maxSteps:=1000000) (disch:=first|rfl|omega|assumption) only [go_sem,ltT,ltF,leT,hl',hm',hlk,ha,hb,hw1,hw2]
  ·simp only [c1,decide_false,if_false] at hw1 ⊢
   generalize w.fa x=fx at *
   obtain ⟨xb,xu⟩:=x
   obtain ⟨yb,yu⟩:=y
   obtain ⟨f1,f2,f3⟩:=fx
   simp only [Pc.av,Fc.av] at ha hw1 hlk ⊢
   cases b
   ·simp only [vwA,Bool.false_eq_true,if_false] at hl hl' hw1 hw2
    refine (zA1 fn78 rfl (by simp [Tryz.f78])).trans ?_
    simp -implicitDefEqProofs (maxSteps:=1000000) (disch:=first|rfl|omega|assumption) only [go_sem,ltT,ltF,leT,hl',hm',hlk]
    rw [zAa];rotate_left;kernel_rfl
    simp -implicitDefEqProofs (maxSteps:=1000000) (disch:=first|rfl|omega|assumption) only [go_sem,ltT,ltF,leT,hl',hm',hlk,ha,hw1]
    rw [zAa];rotate_left;kernel_rfl
    simp -implicitDefEqProofs (maxSteps:=1000000) (disch:=first|rfl|omega|assumption) only [go_sem,ltT,ltF,leT,hl',hm',hlk,ha,hw1]
   ·simp only [vwA,if_true] at hl hl' hw1 hw2
    refine (zA1 fn78 rfl (by simp [Tryz.f78])).trans ?_
    simp -implicitDefEqProofs (maxSteps:=1000000) (disch:=first|rfl|omega|assumption) only [go_sem,ltT,ltF,leT,hl',hm',hlk]
    rw [zAa];rotate_left;kernel_rfl
    simp -implicitDefEqProofs (maxSteps:=1000000) (disch:=first|rfl|omega|assumption) only [go_sem,ltT,ltF,leT,hl',hm',hlk,ha,hw1]
    rw [zAa];rotate_left;kernel_rfl
    simp -implicitDefEqProofs (maxSteps:=1000000) (disch:=first|rfl|omega|assumption) only [go_sem,ltT,ltF,leT,hl',hm',hlk,ha,hw1]
 ·simp only [hap,if_true] at hlk ⊢
  obtain ⟨xb,xu⟩:=x
  obtain ⟨yb,yu⟩:=y
  simp only [Pc.av] at hlk ⊢
  refine (zA1 fn78 rfl (by simp [Tryz.f78])).trans ?_
  simp -implicitDefEqProofs (maxSteps:=1000000) (disch:=first|rfl|omega|assumption) only [go_sem,ltT,ltF,leT,hl',hm',hlk]
  rw [zAa];rotate_left;kernel_rfl
  simp -implicitDefEqProofs (maxSteps:=1000000) (disch:=first|rfl|omega|assumption) only [go_sem,ltT,ltF,leT,hl',hm',hlk]
end Go.Ab
namespace Go.Ab
open Go.Proofs
set_option linter.unusedSimpArgs false
set_option linter.unusedVariables false
set_option maxRecDepth 100000
set_option maxHeartbeats 2000000
variable {H:Heap}
def fcOk (f:Fc):Bool:=spOk f.lo f.hi 0 5&&wi f.st 0 2
def bkOk (b:Bk):Bool:=spOk b.lo b.hi 1 200&&(fcOk b.f0&&fcOk b.f1)
def Wg.apOk (w:Wg) (a:Ap):Bool:=wi a.a 0 ((w.n:Int)-1)&&(wi a.b 0 ((w.n:Int)-1)&&(a.a != a.b))
def Wg.bsOk (w:Wg) (j q:Nat):Bool:=!anyF (fun i=>!bkOk (w.b i)) j q
def Wg.psOk (w:Wg) (j q:Nat):Bool:=!anyF (fun i=>!w.apOk (w.a i)) j q
def Wg.valid (w:Wg):Bool:=(wi w.n 1 5&&decide ((w.ps.length:Int)≤6))&&(w.bsOk 0 w.n&&w.psOk 0 w.ps.length)
structure Fc.Ok (f:Fc):Prop where
 sp:0≤f.lo∧f.lo≤f.hi∧f.hi≤5
 st:0≤f.st∧f.st≤2
structure Wg.Ok (w:Wg):Prop where
 n:1≤w.n∧w.n≤5
 np:w.ps.length≤6
 sp:∀ i,i<w.n→1≤(w.b i).lo∧(w.b i).lo≤(w.b i).hi∧(w.b i).hi≤200
 f0:∀ i,i<w.n→(w.b i).f0.Ok
 f1:∀ i,i<w.n→(w.b i).f1.Ok
 ap:∀ i,i<w.ps.length→0≤(w.a i).a∧(w.a i).a<w.n∧0≤(w.a i).b∧(w.a i).b<w.n∧(w.a i).a≠(w.a i).b
theorem spOk_iff {lo hi a b:Int}:spOk lo hi a b=true↔a≤lo∧lo≤hi∧hi≤b:=by simp [spOk]
theorem fcOk_iff {f:Fc}:fcOk f=true↔f.Ok:=by
 simp only [fcOk,Bool.and_eq_true,spOk_iff,wi_iff]
 exact ⟨fun ⟨a,b⟩=>⟨a,b⟩,fun ⟨a,b⟩=>⟨a,b⟩⟩
theorem Wg.valid_iff (w:Wg):w.valid=true↔w.Ok:=by
 simp only [Wg.valid,Wg.bsOk,Wg.psOk,Bool.and_eq_true,decide_eq_true_eq,Bool.not_eq_true',anyF_false,Bool.not_eq_false',wi_iff,bkOk,Wg.apOk,spOk_iff,fcOk_iff,bne_iff_ne,ne_eq]
 constructor
 ·rintro ⟨⟨a,b⟩,c,d⟩
  exact ⟨by omega,by omega,fun i h=>(c i (by omega) (by omega)).1,fun i h=>(c i (by omega) (by omega)).2.1,fun i h=>(c i (by omega) (by omega)).2.2,fun i h=>by
   obtain ⟨h1,h2,h3⟩:=d i (by omega) (by omega)
   exact ⟨by omega,by omega,by omega,by omega,h3⟩⟩
 ·rintro ⟨a,b,c,d,e,f⟩
  exact ⟨⟨by omega,by omega⟩,fun i _ h=>⟨c i (by omega),d i (by omega),e i (by omega)⟩,fun i _ h=>by
   obtain ⟨h1,h2,h3,h4,h5⟩:=f i (by omega)
   exact ⟨by omega,by omega,h5⟩⟩
theorem Wg.Ok.fa {w:Wg} (ho:w.Ok) {x:Pc} (hx:w.pok x):(w.fa x).Ok:=by
 obtain ⟨h1,h2,h3,h4⟩:=hx
 simp only [Wg.fa,Bk.fc]
 split
 ·exact ho.f0 _ (by omega)
 ·exact ho.f1 _ (by omega)
theorem Wg.Ok.fb {w:Wg} (ho:w.Ok) {x:Pc} (hx:w.pok x):(w.fb x).Ok:=by
 obtain ⟨h1,h2,h3,h4⟩:=hx
 simp only [Wg.fb,Bk.fc]
 split
 ·exact ho.f0 _ (by omega)
 ·exact ho.f1 _ (by omega)
structure Pl where
 left:Nat
 top:Pc
 some:Bool
def Pl.av (p:Pl):AV:=.agg [U p.left,I p.top.b,I p.top.u,.bool p.some]
def Wg.film (w:Wg) (p:Pl) (x:Pc):Int:=if p.some then (w.fa p.top).hi+(w.fb x).hi else 0
theorem wr_sum2 (a b c d:Int) (h1 : -1000≤a∧a≤1000) (h2 : -1000≤b∧b≤1000) (h3 : -1000≤c∧c≤1000) (h4 : -1000≤d∧d≤1000) (H:Heap) :
  zA9 cfg0 zA2 false 58 [.sl true [.agg [I a,I b],.agg [I c,I d]]] H none=some ⟨.ret (.agg [I (a+c),I (b+d)]),H,none⟩:=by
 have h:=wr_sum (H:=H) (v:=.sl true ([(a,b),(c,d)].map spA)) (l:=[(a,b),(c,d)]) (slS true _) (by simp) (by
  intro p hp
  simp only [List.mem_cons,List.not_mem_nil,or_false] at hp
  rcases hp with rfl | rfl<;>simp only<;>omega)
 have e1:sum1 [(a,b),(c,d)]=a+c:=by simp [sum1]
 have e2:sum2 [(a,b),(c,d)]=b+d:=by simp [sum2]
 rw [e1,e2] at h
 exact h
theorem wr_film {l m:Nat} {w:Wg} {b:Bool} {vb va:AV} (h:ShAt H l m w b vb va) (ho:w.Ok) {p:Pl} (hp:p.some=true→w.pok p.top) {x:Pc} (hx:w.pok x) :
  zA9 cfg0 zA2 false 51 [.ptr l 0,p.av,x.av] H none=some ⟨.ret (I (w.film p x)),H,none⟩:=by
 have hl:=h.box
 have e1:=zBv w.b
 have hl':=fun G:Heap=>(h.app G).box
 have hb:=wr_fb ho.n.2 hx
 have ob:=ho.fb hx
 obtain ⟨left,⟨tb,tu⟩,sm⟩:=p
 simp only [Wg.film,Pl.av] at hp ⊢
 cases sm
 ·obtain ⟨xb,xu⟩:=x
  simp only [Pc.av,Bool.false_eq_true,if_false]
  refine (zA1 fn51 rfl (by simp [Tryz.f51])).trans ?_
  simp -implicitDefEqProofs (maxSteps:=1000000) (disch:=first|rfl|omega|assumption) only [go_sem,ltT,ltF,leT]
 ·have ha:=wr_fa ho.n.2 (hp rfl)
  have oa:=ho.fa (hp rfl)
  simp only [if_true]
  generalize w.fa ⟨tb,tu⟩=fx at *
  generalize w.fb x=fy at *
  obtain ⟨xb,xu⟩:=x
  obtain ⟨f1,f2,f3⟩:=fx
  obtain ⟨f4,f5,f6⟩:=fy
  obtain ⟨⟨o1,o2,o3⟩,_⟩:=oa
  obtain ⟨⟨o4,o5,o6⟩,_⟩:=ob
  simp only at o1 o2 o3 o4 o5 o6
  have hs:=fun G=>wr_sum2 f1 f2 f4 f5 (by omega) (by omega) (by omega) (by omega) G
  simp only [Pc.av,Fc.av] at ha hb ⊢
  refine (zA1 fn51 rfl (by simp [Tryz.f51])).trans ?_
  simp -implicitDefEqProofs (maxSteps:=1000000) (disch:=first|rfl|omega|assumption) only [go_sem,ltT,ltF,leT,hl',ha,hb,hs]
  rw [zAa];rotate_left;kernel_rfl
  simp -implicitDefEqProofs (maxSteps:=1000000) (disch:=first|rfl|omega|assumption) only [go_sem,ltT,ltF,leT,hl',ha,hb,hs]
theorem wr_all {l m:Nat} {w:Wg} {b:Bool} {vb va:AV} (h:ShAt H l m w b vb va) (hn:w.n≤5):zA9 cfg0 zA2 false 37 [.ptr l 0] H none=some ⟨.ret (U (2^w.n-1)),H,none⟩:=by
 have hl:=h.box
 have hln:=h.wat.bs.len
 rw [List.length_map] at hln
 have e:∀ n:Nat,n≤6→IntKind.u64.wrap (1*2^(min n 64))=((2^n:Nat):Int)∧IntKind.u64.wrap (((2^n:Nat):Int)-1)=((2^n-1:Nat):Int):=by decide
 obtain ⟨e1,e2⟩:=e w.n (by omega)
 have z:¬ (w.bs.length:Int)<0:=by omega
 refine (zA1 fn37 rfl (by simp [Tryz.f37])).trans ?_
 simp -implicitDefEqProofs (maxSteps:=1000000) (disch:=first|rfl|omega|assumption) only [go_sem,hl,hln,e1,e2,z]
theorem wr_in {l m:Nat} {w:Wg} {b:Bool} {vb va:AV} (h:ShAt H l m w b vb va) (b':Bool) :
  zA9 cfg0 zA2 false 38 [.agg (shC vb va (fcsN w.b) (vwA b) m),vwA b'] H none=some ⟨.ret (.ptr H.length 0),H++[.box (.agg (shC vb va (fcsN w.b) (vwA b') m))],none⟩:=by
 have s1:=h.wat.bs.scal
 have s2:=h.wat.ps.scal
 have e1:=zBv w.b
 have e2:=fcsN_sc w.b
 have v1:(vwA b).scalar=true:=by cases b<;>rfl
 have v2:(vwA b').scalar=true:=by cases b'<;>rfl
 have v3:(vwA b').cells=[vwA b']:=by cases b'<;>rfl
 have v4:zAq (vwA b')=false:=by cases b'<;>rfl
 have h1:=shC_sc (m:=m) e2 s1 s2 v1
 have h2:=fun ty h=>wp_view (vb:=vb) (va:=va) (vv:=vwA b) (m:=m) e1 v2 v3 (ty:=ty) h
 have v5:(vwA b').lt (H.length+1)=true:=by cases b'<;>rfl
 refine (zA1 fn38 rfl (by simp [Tryz.f38])).trans ?_
 simp -implicitDefEqProofs (maxSteps:=1000000) (disch:=first|rfl|omega|assumption) only [go_sem,ltT,ltF,leT,h1,h2,v4,v5]
def Wg.upTo (w:Wg) (j:Nat):Nat→Bk:=fun i=>if i<j then w.b i else bk0
theorem upTo_succ (w:Wg) (j:Nat):updF (w.upTo j) j (w.b j)=w.upTo (j+1):=by
 funext i
 simp only [updF,Wg.upTo]
 by_cases h:i=j
 ·subst h;simp
 ·rw [if_neg h]
  by_cases h2:i<j
  ·rw [if_pos h2,if_pos (by omega)]
  ·rw [if_neg h2,if_neg (by omega)]
theorem upTo_all (w:Wg):w.upTo w.n=w.b:=by
 funext i
 simp only [Wg.upTo]
 split
 ·rfl
 ·rename_i h
  simp only [Wg.b,List.getD_eq_getElem?_getD]
  rw [List.getElem?_eq_none (Nat.le_of_not_lt h)];rfl
theorem upTo_zero (w:Wg):w.upTo 0=fun _=>bk0:=by funext i;simp [Wg.upTo]
theorem sh_zeroU (w:Wg) (vb va vv:AV) (m:Nat):(vb::va::I 0::I 0::I 0::I 0::I 0::I 0::I 0::I 0::I 0::I 0::I 0::I 0::I 0::I 0::I 0::I 0::I 0::I 0::I 0::I 0::I 0::I 0::I 0::I 0::I 0::I 0::I 0::I 0::I 0::I 0::vv::.map m::[]:List AV)=shC vb va (fcsN (w.upTo 0)) vv m:=by rw [upTo_zero];rfl
theorem wo_blk {w:Wg} {vb va:AV} (h:WgAt H w vb va) (hn:w.n≤5) (fn:Fn) (cap:List AV) (hf:(AV.func fn [] cap).lt H.length=true) (r:Bool) (K:List Item) (R:Option Done) (hK:r=true→∀ E:Env,E.get 1=.func fn [] cap→E.get 2=.ptr H.length 0→E.get 6=.ptr (H.length+2) 0→Option.map (zAd H.length) (zAe cfg0 zA2 ⟨34,none,false,H.length⟩ K ⟨E,[],H++[.box (.agg [vb,va]),.map 66 [],.box (.agg (shC vb va (fcsN w.b) (vwA false) (H.length+1)))],none⟩)=R) (e1:r=false→R=some ⟨.pan (.iface 152 (.agg [I 1])),H,none⟩) :
  ∀ (q j:Nat),j+q=w.bs.length→∀ (G:Heap),w.bsOk j q=r→∀ E:Env,E.get 1=.func fn [] cap→E.get 2=.ptr H.length 0→E.get 5=.func (.func 69) [] []→E.get 6=.ptr (H.length+2) 0→E.get 31=vb→E.get 32=I w.bs.length→E.get 33=I j →
  Option.map (zAd H.length) (zAe cfg0 zA2 ⟨34,none,false,H.length⟩ (zA6 Tryz.f34 5::.inBlock 0::K) ⟨E,[],H++(.box (.agg [vb,va])::.map 66 []::.box (.agg (shC vb va (fcsN (w.upTo j)) (vwA false) (H.length+1)))::G),none⟩)=R:=by
 intro q
 have hn':w.bs.length≤5:=hn
 obtain ⟨a1,a2,a3,a4,a5⟩:=h.bs.fF (d:=bk0)
 have s1:=h.bs.scal
 have s2:=h.ps.scal
 have t1:=h.bs.ltn 3
 have t2:=h.ps.ltn 3
 have u1:=h.bs.ltn 4
 have u2:=h.ps.ltn 4
 have hf3:(fnLt (H.length+3) fn&&ltL (H.length+3) cap)=true:=by
  have:=zAs (M:=H.length+3) (by omega) _ hf
  simpa [AV.lt,ltL] using this
 have hf4:(fnLt (H.length+4) fn&&ltL (H.length+4) cap)=true:=by
  have:=zAs (M:=H.length+4) (by omega) _ hf
  simpa [AV.lt,ltL] using this
 have hsl:∀ (g:Nat→Bk) (N:Nat),vb.lt (H.length+N)=true→va.lt (H.length+N)=true→2≤N→ltL (H.length+N) (shC vb va (fcsN g) (vwA false) (H.length+1))=true:=by
  intro g N h1 h2 h3
  have:(AV.map (H.length+1)).lt (H.length+N)=true:=by simp [AV.lt];omega
  simp only [shC,ltL,h1,h2,fcsN,Bk.fcs,List.cons_append,List.nil_append,this,vwA]
  rfl
 have hs3:=fun g=>hsl g 3 t1 t2 (by omega)
 have hs4:=fun g=>hsl g 4 u1 u2 (by omega)
 induction q with
 | zero =>
  intro j hj G hr E g1 g2 g5 g6 g31 g32 g33
  have hk':¬ (j:Int)<((w.bs.length:Nat):Int):=by omega
  have hr1:r=true:=by rw [← hr];rfl
  have ej:j=w.bs.length:=by omega
  subst ej
  have hu:=upTo_all w
  simp only [zA6,zA4,zA5,zA7,zA3,↓reduceIte,Option.some.injEq,Nat.reduceEqDiff,reduceCtorEq,Tryz.f34]
  rw [zA0]
  simp -implicitDefEqProofs (maxSteps:=1000000) (disch:=first|rfl|omega|assumption) only [go_sem,g1,g2,g5,g6,g31,g32,g33,ltT,ltF,leT,hk',s1,s2,t1,t2,hf3,hs3,hu]
  exact hK hr1 _ (by rfl) (by rfl) (by rfl)
 | succ q ih =>
  intro j hj G hr E g1 g2 g5 g6 g31 g32 g33
  have hk':(j:Int)<((w.bs.length:Nat):Int):=by omega
  have hk2:j<w.bs.length:=by omega
  have hu:w.bsOk j (q+1)=(bkOk (w.b j)&&w.bsOk (j+1) q):=by
   simp only [Wg.bsOk,anyF]
   cases bkOk (w.b j)<;>simp
  rw [hu] at hr
  obtain ⟨x,hx⟩:∃ x,w.b j=x:=⟨_,rfl⟩
  have hx':w.bs.getD j bk0=x:=hx
  have hup:=upTo_succ w j
  rw [hx] at hr hup
  have hwp:=fun (ty:Ty) (ht:ty.size=6)=>wp_face (vb:=vb) (va:=va) (vv:=vwA false) (m:=H.length+1) (w.upTo j) x (i:=j) (by omega) (ty:=ty) ht
  rw [hup] at hwp
  obtain ⟨lo,hi,⟨f1,f2,f3⟩,⟨f4,f5,f6⟩⟩:=x
  simp only [Bk.fcs] at hwp
  have hrd:∀ ty:Ty,zAf (Bk.av ⟨lo,hi,⟨f1,f2,f3⟩,⟨f4,f5,f6⟩⟩).cells 0 ty=zAf [I lo,I hi,I f1,I f2,I f3,I f4,I f5,I f6] 0 ty:=fun _=>rfl
  have hok:bkOk ⟨lo,hi,⟨f1,f2,f3⟩,⟨f4,f5,f6⟩⟩=(spOk lo hi 1 200&&((spOk f1 f2 0 5&&wi f3 0 2)&&(spOk f4 f5 0 5&&wi f6 0 2))):=rfl
  rw [hok] at hr
  cases c1:spOk lo hi 1 200
  ·rw [c1,Bool.false_and,Bool.false_and] at hr
   rw [e1 hr.symm]
   simp only [zA6,zA4,zA5,zA7,zA3,↓reduceIte,Option.some.injEq,Nat.reduceEqDiff,reduceCtorEq,Tryz.f34]
   rw [zA0]
   simp -implicitDefEqProofs (maxSteps:=1000000) (disch:=first|rfl|omega|assumption) only [go_sem,g1,g2,g5,g6,g31,g32,g33,ltT,ltF,leT,hk',s1,s2,t1,t2,u1,u2,hf3,hf4,hs3,hs4,a1,a2,a3,a4,a5,hx',hrd,wr_span,zB5,c1]
   done
  rw [c1,Bool.true_and] at hr
  simp only [zA6,zA4,zA5,zA7,zA3,↓reduceIte,Option.some.injEq,Nat.reduceEqDiff,reduceCtorEq,Tryz.f34]
  rw [zA0]
  simp -implicitDefEqProofs (maxSteps:=1000000) (disch:=first|rfl|omega|assumption) only [go_sem,g1,g2,g5,g6,g31,g32,g33,ltT,ltF,leT,hk',s1,s2,t1,t2,u1,u2,hf3,hf4,hs3,hs4,a1,a2,a3,a4,a5,hx',hrd,wr_span,zB5,zAw,hwp,c1]
  rw [zA0]
  cases c2:spOk f1 f2 0 5
  ·rw [c2,Bool.false_and,Bool.false_and,Bool.false_and] at hr
   rw [e1 hr.symm]
   simp -implicitDefEqProofs (maxSteps:=1000000) (disch:=first|rfl|omega|assumption) only [go_sem,g1,g2,g5,g6,g31,g32,g33,ltT,ltF,leT,hk',s1,s2,t1,t2,u1,u2,hf3,hf4,hs3,hs4,a1,a2,a3,a4,a5,hx',hrd,wr_span,zB5,zAw,hwp,c2]
   done
  cases c3:wi f3 0 2
  ·rw [c2,c3,Bool.and_false,Bool.false_and,Bool.false_and] at hr
   rw [e1 hr.symm]
   simp -implicitDefEqProofs (maxSteps:=1000000) (disch:=first|rfl|omega|assumption) only [go_sem,g1,g2,g5,g6,g31,g32,g33,ltT,ltF,leT,hk',s1,s2,t1,t2,u1,u2,hf3,hf4,hs3,hs4,a1,a2,a3,a4,a5,hx',hrd,wr_span,zB5,zAw,hwp,c2,c3]
   done
  rw [c2,c3,Bool.and_self,Bool.true_and] at hr
  simp -implicitDefEqProofs (maxSteps:=1000000) (disch:=first|rfl|omega|assumption) only [go_sem,g1,g2,g5,g6,g31,g32,g33,ltT,ltF,leT,hk',s1,s2,t1,t2,u1,u2,hf3,hf4,hs3,hs4,a1,a2,a3,a4,a5,hx',hrd,wr_span,zB5,zAw,hwp,c2,c3]
  rw [zA0]
  cases c4:spOk f4 f5 0 5
  ·rw [c4,Bool.false_and,Bool.false_and] at hr
   rw [e1 hr.symm]
   simp -implicitDefEqProofs (maxSteps:=1000000) (disch:=first|rfl|omega|assumption) only [go_sem,g1,g2,g5,g6,g31,g32,g33,ltT,ltF,leT,hk',s1,s2,t1,t2,u1,u2,hf3,hf4,hs3,hs4,a1,a2,a3,a4,a5,hx',hrd,wr_span,zB5,zAw,hwp,c4]
   done
  cases c5:wi f6 0 2
  ·rw [c4,c5,Bool.and_false,Bool.false_and] at hr
   rw [e1 hr.symm]
   simp -implicitDefEqProofs (maxSteps:=1000000) (disch:=first|rfl|omega|assumption) only [go_sem,g1,g2,g5,g6,g31,g32,g33,ltT,ltF,leT,hk',s1,s2,t1,t2,u1,u2,hf3,hf4,hs3,hs4,a1,a2,a3,a4,a5,hx',hrd,wr_span,zB5,zAw,hwp,c4,c5]
   done
  rw [c4,c5,Bool.and_self,Bool.true_and] at hr
  simp -implicitDefEqProofs (maxSteps:=1000000) (disch:=first|rfl|omega|assumption) only [go_sem,g1,g2,g5,g6,g31,g32,g33,ltT,ltF,leT,hk',s1,s2,t1,t2,u1,u2,hf3,hf4,hs3,hs4,a1,a2,a3,a4,a5,hx',hrd,wr_span,zB5,zAw,hwp,c4,c5]
  rw [zA0]
  simp -implicitDefEqProofs (maxSteps:=1000000) (disch:=first|rfl|omega|assumption) only [go_sem,g1,g2,g5,g6,g31,g32,g33,ltT,ltF,leT,hk',s1,s2,t1,t2,u1,u2,hf3,hf4,hs3,hs4,a1,a2,a3,a4,a5,hx',hrd,wr_span,zB5,zAw,hwp]
  rw [zAa];rotate_left;kernel_rfl
  simp -implicitDefEqProofs (maxSteps:=1000000) (disch:=first|rfl|omega|assumption) only [go_sem,g1,g2,g5,g6,g31,g32,g33,ltT,ltF,leT,hk',s1,s2,t1,t2,u1,u2,hf3,hf4,hs3,hs4,a1,a2,a3,a4,a5,hx',hrd,wr_span,zB5,zAw,hwp]
  exact ih (j+1) (by omega) _ hr _ (by rfl) (by rfl) (by rfl) (by rfl) (by rfl) (by rfl) (by rfl)
theorem ap_take (w:Wg) {j:Nat} (h:j<w.ps.length):(w.ps.take (j+1)).foldl apS []=apS ((w.ps.take j).foldl apS []) (w.a j):=by
 rw [List.take_succ_eq_append_getElem h,List.foldl_append]
 simp [h]
theorem wo_ap {w:Wg} {vb va:AV} (h:WgAt H w vb va) (hn:w.bs.length≤5) (hnp:w.ps.length≤6) (fn:Fn) (cap:List AV) (hf:(AV.func fn [] cap).lt H.length=true) (r:Bool) (K:List Item) (R:Option Done) (hK:r=true→∀ E:Env,E.get 1=.func fn [] cap→E.get 6=.ptr (H.length+2) 0→Option.map (zAd H.length) (zAe cfg0 zA2 ⟨34,none,false,H.length⟩ K ⟨E,[],H++[.box (.agg [vb,va]),.map 66 (apM w.ps),.box (.agg (shC vb va (fcsN w.b) (vwA false) (H.length+1)))],none⟩)=R) (e1:r=false→R=some ⟨.pan (.iface 152 (.agg [I 1])),H,none⟩) :
  ∀ (q j:Nat),j+q=w.ps.length→∀ (G:Heap),∀ (es:List (AV×AV)),es=(w.ps.take j).foldl apS []→w.psOk j q=r→∀ E:Env,E.get 1=.func fn [] cap→E.get 6=.ptr (H.length+2) 0→E.get 68=va→E.get 69=I w.ps.length→E.get 70=I j →
  Option.map (zAd H.length) (zAe cfg0 zA2 ⟨34,none,false,H.length⟩ (zA6 Tryz.f34 16::.inBlock 4::K) ⟨E,[],H++(.box (.agg [vb,va])::.map 66 es::.box (.agg (shC vb va (fcsN w.b) (vwA false) (H.length+1)))::G),none⟩)=R:=by
 intro q
 obtain ⟨a1,a2,a3,a4,a5⟩:=h.ps.fF (d:=ap0)
 have hln:=h.bs.len
 rw [List.length_map] at hln
 have s1:=h.bs.scal
 have s2:=h.ps.scal
 have t1:=h.bs.ltn 3
 have t2:=h.ps.ltn 3
 have hf3:(fnLt (H.length+3) fn&&ltL (H.length+3) cap)=true:=by
  have:=zAs (M:=H.length+3) (by omega) _ hf
  simpa [AV.lt,ltL] using this
 have hs3:ltL (H.length+3) (shC vb va (fcsN w.b) (vwA false) (H.length+1))=true:=by
  have:(AV.map (H.length+1)).lt (H.length+3)=true:=by simp [AV.lt]
  simp only [shC,ltL,t1,t2,fcsN,Bk.fcs,List.cons_append,List.nil_append,this,vwA]
  rfl
 have hm3:∀ k,zB7 (H.length+3) ((w.ps.take k).foldl apS [])=true:=by
  have key:∀ (l:List Ap) (es:List (AV×AV)),zB7 (H.length+3) es=true→zB7 (H.length+3) (l.foldl apS es)=true:=by
   intro l
   induction l with
   | nil=>intro es h;exact h
   | cons a r ih =>
    intro es h
    rw [List.foldl_cons]
    exact ih _ (put_lt rfl rfl _ (put_lt rfl rfl _ h))
  exact fun k=>key _ [] rfl
 induction q with
 | zero =>
  intro j hj G es he hr E g1 g6 g68 g69 g70
  have hk':¬ (j:Int)<((w.ps.length:Nat):Int):=by omega
  have hr1:r=true:=by rw [← hr];rfl
  have ej:j=w.ps.length:=by omega
  subst ej
  have hm:=hm3 w.ps.length
  rw [← he] at hm
  have hes:es=apM w.ps:=by rw [he,List.take_length];rfl
  subst hes
  simp only [zA6,zA4,zA5,zA7,zA3,↓reduceIte,Option.some.injEq,Nat.reduceEqDiff,reduceCtorEq,Tryz.f34]
  rw [zA0]
  simp -implicitDefEqProofs (maxSteps:=1000000) (disch:=first|rfl|omega|assumption) only [go_sem,g1,g6,g68,g69,g70,ltT,ltF,leT,hk',s1,s2,t1,t2,hf3,hs3,hm]
  exact hK hr1 _ (by rfl) (by rfl)
 | succ q ih =>
  intro j hj G es he hr E g1 g6 g68 g69 g70
  have hk':(j:Int)<((w.ps.length:Nat):Int):=by omega
  have hk2:j<w.ps.length:=by omega
  have hu:w.psOk j (q+1)=(w.apOk (w.a j)&&w.psOk (j+1) q):=by
   simp only [Wg.psOk,anyF]
   cases w.apOk (w.a j)<;>simp
  rw [hu] at hr
  have hm:=hm3 j
  rw [← he] at hm
  have hnx:=ap_take w hk2
  rw [← he] at hnx
  obtain ⟨x,hx⟩:∃ x,w.a j=x:=⟨_,rfl⟩
  have hx':w.ps.getD j ap0=x:=hx
  rw [hx] at hr hnx
  obtain ⟨x,y⟩:=x
  have hrd:∀ ty:Ty,zAf (Ap.av ⟨x,y⟩).cells 0 ty=zAf [I x,I y] 0 ty:=fun _=>rfl
  have hok:w.apOk ⟨x,y⟩=(wi x 0 ((w.bs.length:Int)-1)&&(wi y 0 ((w.bs.length:Int)-1)&&(x != y))):=rfl
  rw [hok] at hr
  have hI:=fun (o1 o2:AO) (G:Heap) (x:Int)=>wr_isBlock (H:=H++(o1::o2::.box (.agg (shC vb va (fcsN w.b) (vwA false) (H.length+1)))::G)) (l:=H.length+2) (m:=H.length+1) (n:=w.bs.length) (by rw [zAi 2];rfl) (zBv w.b) hln (by omega) x
  have e30:=zBv w.b
  cases c1:wi x 0 ((w.bs.length:Int)-1)
  ·rw [c1,Bool.false_and,Bool.false_and] at hr
   rw [e1 hr.symm]
   simp only [zA6,zA4,zA5,zA7,zA3,↓reduceIte,Option.some.injEq,Nat.reduceEqDiff,reduceCtorEq,Tryz.f34]
   rw [zA0]
   simp -implicitDefEqProofs (maxSteps:=1000000) (disch:=first|rfl|omega|assumption) only [go_sem,g1,g6,g68,g69,g70,ltT,ltF,leT,hk',s1,s2,t1,t2,hf3,hs3,hm,a1,a2,a3,a4,a5,hx',hrd,hI,zB5,c1]
   done
  cases c2:wi y 0 ((w.bs.length:Int)-1)
  ·rw [c1,c2,Bool.false_and,Bool.and_false,Bool.false_and] at hr
   rw [e1 hr.symm]
   simp only [zA6,zA4,zA5,zA7,zA3,↓reduceIte,Option.some.injEq,Nat.reduceEqDiff,reduceCtorEq,Tryz.f34]
   rw [zA0]
   simp -implicitDefEqProofs (maxSteps:=1000000) (disch:=first|rfl|omega|assumption) only [go_sem,g1,g6,g68,g69,g70,ltT,ltF,leT,hk',s1,s2,t1,t2,hf3,hs3,hm,a1,a2,a3,a4,a5,hx',hrd,hI,zB5,c1,c2]
   done
  cases c3:(x != y)
  ·rw [c1,c2,c3,Bool.and_false,Bool.and_false,Bool.false_and] at hr
   rw [e1 hr.symm]
   simp only [zA6,zA4,zA5,zA7,zA3,↓reduceIte,Option.some.injEq,Nat.reduceEqDiff,reduceCtorEq,Tryz.f34]
   rw [zA0]
   simp -implicitDefEqProofs (maxSteps:=1000000) (disch:=first|rfl|omega|assumption) only [go_sem,g1,g6,g68,g69,g70,ltT,ltF,leT,hk',s1,s2,t1,t2,hf3,hs3,hm,a1,a2,a3,a4,a5,hx',hrd,hI,zB5,c1,c2,c3]
   done
  rw [c1,c2,c3,Bool.and_self,Bool.and_self,Bool.true_and] at hr
  simp only [zA6,zA4,zA5,zA7,zA3,↓reduceIte,Option.some.injEq,Nat.reduceEqDiff,reduceCtorEq,Tryz.f34]
  rw [zA0]
  simp -implicitDefEqProofs (maxSteps:=1000000) (disch:=first|rfl|omega|assumption) only [go_sem,g1,g6,g68,g69,g70,ltT,ltF,leT,hk',s1,s2,t1,t2,hf3,hs3,hm,a1,a2,a3,a4,a5,hx',hrd,hI,zB5,c1,c2,c3]
  rw [zAa];rotate_left;kernel_rfl
  simp -implicitDefEqProofs (maxSteps:=1000000) (disch:=first|rfl|omega|assumption) only [go_sem,g1,g6,g68,g69,g70,ltT,ltF,leT,hk',s1,s2,e30]
  exact ih (j+1) (by omega) [.box (.agg [I x,I y])] _ hnx.symm hr _ (by rfl) (by rfl) (by rfl) (by rfl) (by rfl)
def opG (w:Wg) (vb va:AV) (n:Nat):Heap:=[.box (.agg [vb,va]),.map 66 (apM w.ps),.box (.agg (shC vb va (fcsN w.b) (vwA false) (n+1)))]
theorem opG_at {w:Wg} {vb va:AV} (h:WgAt H w vb va):ShAt (H++opG w vb va H.length) (H.length+2) (H.length+1) w false vb va :=
 ⟨by rw [zAi 2];rfl,by rw [zAi 1];rfl,h.app _⟩
theorem wr_open {w:Wg} {vb va:AV} (h:WgAt H w vb va) (hl:w.bs.length≤1000∧w.ps.length≤1000) (fn:Fn) (cap:List AV) (hf:(AV.func fn [] cap).lt H.length=true) (r:Bool)
  (hr:w.valid=true→∀ b0:Nat,zB1 cfg0 zA2 b0 false fn [.ptr (H.length+2) 0] cap (H++opG w vb va H.length) none=some ⟨.ret (.bool r),H++opG w vb va H.length,none⟩) :
  zA9 cfg0 zA2 false 34 [.agg [vb,va],.func fn [] cap] H none=some (if w.valid then (if r then ⟨.ret (.ptr (H.length+2) 0),H++opG w vb va H.length,none⟩ else ⟨.pan (.iface 152 (.agg [I 2])),H,none⟩) else ⟨.pan (.iface 152 (.agg [I 1])),H,none⟩):=by
 have s1:=h.bs.scal
 have s2:=h.ps.scal
 have n1:=h.bs.len
 have n2:=h.ps.len
 have c1':=h.bs.cel
 have c2':=h.ps.cel
 rw [List.length_map] at n1 n2
 have hv:w.valid=((wi w.bs.length 1 5&&decide ((w.ps.length:Int)≤6))&&(w.bsOk 0 w.bs.length&&w.psOk 0 w.ps.length)):=rfl
 cases c1:wi w.bs.length 1 5
 ·have:w.valid=false:=by rw [hv,c1];rfl
  simp only [this,Bool.false_eq_true,if_false]
  refine (zA1 fn34 rfl (by simp [Tryz.f34])).trans ?_
  simp -implicitDefEqProofs (maxSteps:=1000000) (disch:=first|rfl|omega|assumption) only [go_sem,ltT,ltF,leT,s1,s2,n1,n2,zAw,zB5,c1]
  done
 by_cases c2:(w.ps.length:Int)≤6
 rotate_left
 ·have:w.valid=false:=by rw [hv,c1];simp [c2]
  simp only [this,Bool.false_eq_true,if_false]
  refine (zA1 fn34 rfl (by simp [Tryz.f34])).trans ?_
  simp -implicitDefEqProofs (maxSteps:=1000000) (disch:=first|rfl|omega|assumption) only [go_sem,ltT,ltF,leT,s1,s2,n1,n2,zAw,zB5,c1,c2]
  done
 have hb5:=(wi_iff.1 c1).2
 have hz:=sh_zeroU w vb va
 have e30:=zBv (w.upTo 0)
 have hsc:=fun m=>shC_sc (m:=m) (fcsN_sc (w.upTo 0)) s1 s2 (show (AV.iface 96 (.agg [I 0])).scalar=true from rfl)
 cases c3:w.bsOk 0 w.bs.length
 ·have:w.valid=false:=by rw [hv,c1,c3];simp
  simp only [this,Bool.false_eq_true,if_false]
  refine (zA1 fn34 rfl (by simp [Tryz.f34])).trans ?_
  simp -implicitDefEqProofs (maxSteps:=1000000) (disch:=first|rfl|omega|assumption) only [go_sem,ltT,ltF,leT,s1,s2,n1,n2,zAw,zB5,c1,c2,c1',c2',hz,hsc]
  exact wo_blk h (by simp only [Wg.n];omega) fn cap hf false _ _ (fun hh=>by cases hh) (fun _=>rfl) w.bs.length 0 (by omega) [] c3 _ (by rfl) (by rfl) (by rfl) (by rfl) (by rfl) (by rfl) (by rfl)
 cases c4:w.psOk 0 w.ps.length
 ·have:w.valid=false:=by rw [hv,c4,Bool.and_false,Bool.and_false]
  simp only [this,Bool.false_eq_true,if_false]
  refine (zA1 fn34 rfl (by simp [Tryz.f34])).trans ?_
  simp -implicitDefEqProofs (maxSteps:=1000000) (disch:=first|rfl|omega|assumption) only [go_sem,ltT,ltF,leT,s1,s2,n1,n2,zAw,zB5,c1,c2,c1',c2',hz,hsc]
  refine wo_blk h (by simp only [Wg.n];omega) fn cap hf true _ _ (fun _ E g1 g2 g6=>?_) (fun hh=>by cases hh) w.bs.length 0 (by omega) [] c3 _ (by rfl) (by rfl) (by rfl) (by rfl) (by rfl) (by rfl) (by rfl)
  simp -implicitDefEqProofs (maxSteps:=1000000) (disch:=first|rfl|omega|assumption) only [go_sem,ltT,ltF,leT,s1,s2,n1,n2,g1,g2,g6]
  exact wo_ap h (by omega) (by omega) fn cap hf false _ _ (fun hh=>by cases hh) (fun _=>rfl) w.ps.length 0 (by omega) [] [] rfl c4 _ (by exact g1) (by exact g6) (by rfl) (by rfl) (by rfl)
 ·have hvt:w.valid=true:=by rw [hv,c1,c3,c4];simp [c2]
  have hr':=hr hvt
  simp only [hvt,if_true]
  refine (zA1 fn34 rfl (by simp [Tryz.f34])).trans ?_
  simp -implicitDefEqProofs (maxSteps:=1000000) (disch:=first|rfl|omega|assumption) only [go_sem,ltT,ltF,leT,s1,s2,n1,n2,zAw,zB5,c1,c2,c1',c2',hz,hsc]
  refine wo_blk h (by simp only [Wg.n];omega) fn cap hf true _ _ (fun _ E g1 g2 g6=>?_) (fun hh=>by cases hh) w.bs.length 0 (by omega) [] c3 _ (by rfl) (by rfl) (by rfl) (by rfl) (by rfl) (by rfl) (by rfl)
  simp -implicitDefEqProofs (maxSteps:=1000000) (disch:=first|rfl|omega|assumption) only [go_sem,ltT,ltF,leT,s1,s2,n1,n2,g1,g2,g6]
  refine wo_ap h (by omega) (by omega) fn cap hf true _ _ (fun _ E k1 k6=>?_) (fun hh=>by cases hh) w.ps.length 0 (by omega) [] [] rfl c4 _ (by exact g1) (by exact g6) (by rfl) (by rfl) (by rfl)
  simp only [opG] at hr'
  cases r
  ·simp only [Bool.false_eq_true,if_false]
   simp -implicitDefEqProofs (maxSteps:=1000000) (disch:=first|rfl|omega|assumption) only [go_sem,ltT,ltF,leT,k1,k6,hr',zB5]
   done
  ·simp only [if_true,opG]
   simp -implicitDefEqProofs (maxSteps:=1000000) (disch:=first|rfl|omega|assumption) only [go_sem,ltT,ltF,leT,k1,k6,hr',zB5]
   done
abbrev pcA (l:List Pc) (i:Nat):Pc:=l.getD i pc0
theorem slP {b:Bool} (xs:List Pc):SlOk H 2 (.sl b (xs.map Pc.av)) (xs.map Pc.av):=⟨rfl,fun x hx=>by
 obtain ⟨i,_,rfl⟩:=List.mem_map.1 hx;rfl⟩
def snM (l:List Pc):List (AV×AV):=l.foldl (fun es x=>putM (I x.b) (.bool true) es) []
theorem snM_look (b:Int):∀ (l:List Pc) (es:List (AV×AV)),zAk (I b) (l.foldl (fun es x=>putM (I x.b) (.bool true) es) es)=if l.any (fun x=>x.b==b) then some (.bool true) else zAk (I b) es
 | [],es=>by simp
 | a::r,es=>by
  rw [List.foldl_cons,snM_look b r,lookup_put]
  have e:(I b).same (I a.b)=(a.b==b):=by
   simp only [I,AV.same,beq_self_eq_true,Bool.true_and]
   by_cases h:a.b=b
   ·rw [h]
   ·have h2:¬ b=a.b:=fun e=>h e.symm
    rw [beq_eq_false_iff_ne.2 h,beq_eq_false_iff_ne.2 h2]
  rw [e]
  simp only [List.any_cons]
  by_cases hr:r.any (fun x=>x.b==b)=true
  ·simp [hr]
  ·have hr:r.any (fun x=>x.b==b)=false:=by simpa using hr
   simp only [hr,Bool.or_false,Bool.false_eq_true,if_false]
theorem sn_take (l:List Pc) {j:Nat} (h:j<l.length):snM (l.take (j+1))=putM (I (pcA l j).b) (.bool true) (snM (l.take j)):=by
 rw [List.take_succ_eq_append_getElem h,snM,List.foldl_append]
 simp [pcA,h,snM]
def Wg.badAt (w:Wg) (l:List Pc) (i:Nat):Bool:=!wi (pcA l i).b 0 ((w.bs.length:Int)-1)||(!wi (pcA l i).u 0 1||(l.take i).any (fun x=>x.b==(pcA l i).b))
def Wg.stk (w:Wg) (l:List Pc):Bool:=!anyF (w.badAt l) 0 l.length&&decide ((0:Int)<l.length)
theorem snM_lt (l:List Pc) (N:Nat):zB7 N (snM l)=true:=by
 have key:∀ (l:List Pc) (es:List (AV×AV)),zB7 N es=true→zB7 N (l.foldl (fun es x=>putM (I x.b) (.bool true) es) es)=true:=by
  intro l
  induction l with
  | nil=>intro es h;exact h
  | cons a r ih=>intro es h;rw [List.foldl_cons];exact ih _ (put_lt rfl rfl _ h)
 exact key l [] rfl
theorem stk_loop {l m k:Nat} {w:Wg} {b:Bool} {vb va:AV} (h:ShAt H l m w b vb va) (hw:w.bs.length≤5) (f:Bool) (xs:List Pc) (hx:xs.length≤1000) (hk:H[k]? = some (.box (.sl f (xs.map Pc.av)))) (r:Bool) :
  ∀ (q j:Nat),j+q=xs.length→∀ (G:Heap),∀ (es:List (AV×AV)),es=snM (xs.take j)→(!anyF (w.badAt xs) j q&&decide ((0:Int)<xs.length))=r→∀ E:Env,E.get 0=.ptr l 0→E.get 1=.ptr k 0→E.get 4=.map H.length→E.get 8=.sl f (xs.map Pc.av)→E.get 9=I xs.length→E.get 10=I j →
  Option.map (zAd H.length) (zAe cfg0 zA2 ⟨79,none,false,H.length⟩ (zA5 Tryz.f79 3) ⟨E,[],H++(.map 3 es::G),none⟩)=some ⟨.ret (.bool r),H,none⟩:=by
 intro q
 obtain ⟨a1,a2,a3,a4,a5⟩:=(slP (H:=H) (b:=f) xs).fF (d:=pc0)
 have ll:l<H.length:=(List.getElem?_eq_some_iff.1 h.box).1
 have lk:k<H.length:=(List.getElem?_eq_some_iff.1 hk).1
 have hkk:∀ G:Heap,(H++G)[k]? = some (.box (.sl f (xs.map Pc.av))):=fun G=>by rw [List.getElem?_append_left lk];exact hk
 have t1:(decide (l<H.length+1))=true:=by simp;omega
 have t2:(decide (k<H.length+1))=true:=by simp;omega
 have hln:=h.wat.bs.len
 rw [List.length_map] at hln
 induction q with
 | zero =>
  intro j hj G es he hr E g0 g1 g4 g8 g9 g10
  have hk':¬ (j:Int)<((xs.length:Nat):Int):=by omega
  have e0:anyF (w.badAt xs) j 0=false:=rfl
  rw [e0,Bool.not_false,Bool.true_and] at hr
  have hm:=snM_lt (xs.take j) (H.length+1)
  rw [← he] at hm
  simp only [zA6,zA4,zA5,zA7,zA3,↓reduceIte,Option.some.injEq,Nat.reduceEqDiff,reduceCtorEq,Tryz.f79]
  rw [zA0]
  cases r
  ·have h0:¬ (0:Int)<xs.length:=by simpa using hr
   simp -implicitDefEqProofs (maxSteps:=1000000) (disch:=first|rfl|omega|assumption) only [go_sem,g0,g1,g4,g8,g9,g10,ltT,ltF,leT,hk',t1,t2,hm,hkk,h0]
   done
  ·have h0:(0:Int)<xs.length:=by simpa using hr
   simp -implicitDefEqProofs (maxSteps:=1000000) (disch:=first|rfl|omega|assumption) only [go_sem,g0,g1,g4,g8,g9,g10,ltT,ltF,leT,hk',t1,t2,hm,hkk,h0]
   done
 | succ q ih =>
  intro j hj G es he hr E g0 g1 g4 g8 g9 g10
  have hk':(j:Int)<((xs.length:Nat):Int):=by omega
  have hk2:j<xs.length:=by omega
  have hm:=snM_lt (xs.take j) (H.length+1)
  rw [← he] at hm
  have hnx:=sn_take xs hk2
  rw [← he] at hnx
  have hlk:=snM_look (pcA xs j).b (xs.take j) []
  have ele:(xs.take j).foldl (fun es x=>putM (I x.b) (.bool true) es) []=es:=he.symm
  rw [ele] at hlk
  have hu:anyF (w.badAt xs) j (q+1)=(w.badAt xs j||anyF (w.badAt xs) (j+1) q):=rfl
  have hbd:w.badAt xs j=(!wi (pcA xs j).b 0 ((w.bs.length:Int)-1)||(!wi (pcA xs j).u 0 1||(xs.take j).any (fun x=>x.b==(pcA xs j).b))):=rfl
  rw [hu,hbd] at hr
  obtain ⟨x,hxe⟩:∃ x,pcA xs j=x:=⟨_,rfl⟩
  have hxe':xs.getD j pc0=x:=hxe
  rw [hxe] at hnx hr hlk
  obtain ⟨xb,xu⟩:=x
  have hrd:∀ ty:Ty,zAf (Pc.av ⟨xb,xu⟩).cells 0 ty=zAf [I xb,I xu] 0 ty:=fun _=>rfl
  have hI:=fun G=>wr_isBlock (n:=w.bs.length) ((h.app G).box) (zBv w.b) (by exact hln) (by omega) xb
  simp only at hr hlk hnx
  cases c1:wi xb 0 ((w.bs.length:Int)-1)
  ·rw [c1] at hr
   simp only [Bool.not_false,Bool.true_or,Bool.not_true,Bool.false_and] at hr
   subst hr
   simp only [zA6,zA4,zA5,zA7,zA3,↓reduceIte,Option.some.injEq,Nat.reduceEqDiff,reduceCtorEq,Tryz.f79]
   rw [zA0]
   simp -implicitDefEqProofs (maxSteps:=1000000) (disch:=first|rfl|omega|assumption) only [go_sem,g0,g1,g4,g8,g9,g10,ltT,ltF,leT,hk',t1,t2,hm,hkk,a1,a2,a3,a4,a5,hxe',hrd,hI,zAw,c1]
   done
  cases c2:wi xu 0 1
  ·rw [c1,c2] at hr
   simp only [Bool.not_false,Bool.true_or,Bool.or_true,Bool.not_true,Bool.false_and] at hr
   subst hr
   simp only [zA6,zA4,zA5,zA7,zA3,↓reduceIte,Option.some.injEq,Nat.reduceEqDiff,reduceCtorEq,Tryz.f79]
   rw [zA0]
   simp -implicitDefEqProofs (maxSteps:=1000000) (disch:=first|rfl|omega|assumption) only [go_sem,g0,g1,g4,g8,g9,g10,ltT,ltF,leT,hk',t1,t2,hm,hkk,a1,a2,a3,a4,a5,hxe',hrd,hI,zAw,c1,c2]
   done
  rcases Bool.eq_false_or_eq_true ((xs.take j).any (fun x=>x.b==xb)) with c3 | c3
  ·rw [c1,c2,c3] at hr
   simp only [Bool.or_true,Bool.true_or,Bool.not_true,Bool.false_and] at hr
   subst hr
   rw [c3] at hlk
   simp only [if_true] at hlk
   simp only [zA6,zA4,zA5,zA7,zA3,↓reduceIte,Option.some.injEq,Nat.reduceEqDiff,reduceCtorEq,Tryz.f79]
   rw [zA0]
   simp -implicitDefEqProofs (maxSteps:=1000000) (disch:=first|rfl|omega|assumption) only [go_sem,g0,g1,g4,g8,g9,g10,ltT,ltF,leT,hk',t1,t2,hm,hkk,a1,a2,a3,a4,a5,hxe',hrd,hI,zAw,c1,c2,hlk]
   done
  ·rw [c1,c2,c3] at hr
   simp only [Bool.not_true,Bool.or_false,Bool.false_or] at hr
   rw [c3] at hlk
   simp only [Bool.false_eq_true,if_false,zAk] at hlk
   simp only [zA6,zA4,zA5,zA7,zA3,↓reduceIte,Option.some.injEq,Nat.reduceEqDiff,reduceCtorEq,Tryz.f79]
   rw [zA0]
   simp -implicitDefEqProofs (maxSteps:=1000000) (disch:=first|rfl|omega|assumption) only [go_sem,g0,g1,g4,g8,g9,g10,ltT,ltF,leT,hk',t1,t2,hm,hkk,a1,a2,a3,a4,a5,hxe',hrd,hI,zAw,c1,c2,hlk]
   exact ih (j+1) (by omega) [.box (.agg [I xb,I xu])] _ hnx.symm hr _ (by rfl) (by rfl) (by rfl) (by rfl) (by rfl) (by rfl)
theorem wr_stack1 {l m k:Nat} {w:Wg} {b:Bool} {vb va:AV} (h:ShAt H l m w b vb va) (hw:w.bs.length≤5) (f:Bool) (xs:List Pc) (hx:xs.length≤1000) (hk:H[k]? = some (.box (.sl f (xs.map Pc.av)))) :
  zA9 cfg0 zA2 false 79 [.ptr l 0,.ptr k 0] H none=some ⟨.ret (.bool (w.stk xs)),H,none⟩:=by
 have h1:=stk_loop h hw f xs hx hk (w.stk xs) xs.length 0 (by omega) [] [] rfl rfl
 have lk:k<H.length:=(List.getElem?_eq_some_iff.1 hk).1
 have hk':∀ G:Heap,(H++G)[k]? = some (.box (.sl f (xs.map Pc.av))):=fun G=>by rw [List.getElem?_append_left lk];exact hk
 refine (zA1 fn79 rfl (by simp [Tryz.f79])).trans ?_
 simp -implicitDefEqProofs (maxSteps:=1000000) (disch:=first|rfl|omega|assumption) only [go_sem,ltT,ltF,leT,hk']
 exact h1 _ (by rfl) (by rfl) (by rfl) (by rfl) (by rfl) (by rfl)
theorem wr_isStack (v:AV) (hv:v.scalar=true) (hc:zAq v=false∨True) (H:Heap):zA9 cfg0 zA2 false 53 [v] H none=some ⟨.ret (.func (.func 79) [] [.ptr H.length 0]),H++[.box v],none⟩:=by
 have he:elemOk 1 false v=true:=by
  cases v<;>first | rfl | cases hv
 refine (zA1 fn53 rfl (by simp [Tryz.f53])).trans ?_
 simp -implicitDefEqProofs (maxSteps:=1000000) (disch:=first|rfl|omega|assumption) only [go_sem,ltT,ltF,leT,he]
end Go.Ab
namespace Go.Ab
set_option linter.unusedSimpArgs false
set_option linter.unusedVariables false
set_option maxRecDepth 100000
open Go.Proofs Go.ChangeShapes Go.RowKit Go.WideShapes
def shI:Sh:=.int .i64
def shSpan:Sh:=.cons shI (.cons shI .unit)
def shFace:Sh:=.cons shSpan (.cons shI .unit)
def shBlk:Sh:=.cons shSpan (.cons (shRep 2 shFace) .unit)
def shPair:Sh:=.cons shI (.cons shI .unit)
def shWg:Sh:=.cons (.sl true shBlk) (.cons (.sl true shPair) .unit)
theorem sh_two {l:List AV} (h:Shaped shPair l):∃ a b,l=[I a,I b]:=by
 obtain ⟨_,_,rfl,⟨a,rfl,_⟩,_,_,rfl,⟨b,rfl,_⟩,rfl⟩:=h
 exact ⟨a,b,rfl⟩
theorem sh_face {l:List AV} (h:Shaped shFace l):∃ a b c,l=[I a,I b,I c]:=by
 obtain ⟨_,_,rfl,h1,_,_,rfl,⟨c,rfl,_⟩,rfl⟩:=h
 obtain ⟨a,b,rfl⟩:=sh_two h1
 exact ⟨a,b,c,rfl⟩
theorem sh_blk {l:List AV} (h:Shaped shBlk l):∃ b:Bk,AV.agg l=b.av:=by
 obtain ⟨_,_,rfl,h1,_,_,rfl,⟨_,_,rfl,h2,_,_,rfl,h3,rfl⟩,rfl⟩:=h
 obtain ⟨a,b,rfl⟩:=sh_two h1
 obtain ⟨c,d,e,rfl⟩:=sh_face h2
 obtain ⟨f,g,i,rfl⟩:=sh_face h3
 exact ⟨⟨a,b,⟨c,d,e⟩,⟨f,g,i⟩⟩,rfl⟩
theorem sh_wg {l:List AV} (h:Shaped shWg l):∃ (w:Wg) (vb va:AV),l=[vb,va]∧WgAt [] w vb va:=by
 obtain ⟨_,_,rfl,⟨f,es,rfl,h1⟩,_,_,rfl,⟨g,fs,rfl,h2⟩,rfl⟩:=h
 obtain ⟨bs,rfl⟩:=list_of (f:=Bk.av) (es:=es) fun x hx=>by
  obtain ⟨cs,hc,rfl⟩:=h1 x hx
  obtain ⟨b,hb⟩:=sh_blk hc
  exact ⟨b,by simp only [pack,if_true];exact hb⟩
 obtain ⟨ps,rfl⟩:=list_of (f:=Ap.av) (es:=fs) fun x hx=>by
  obtain ⟨cs,hc,rfl⟩:=h2 x hx
  obtain ⟨a,b,rfl⟩:=sh_two hc
  exact ⟨⟨a,b⟩,rfl⟩
 exact ⟨⟨bs,ps⟩,.sl f (bs.map Bk.av),.sl g (ps.map Ap.av),rfl,⟨⟨rfl,fun x hx=>by obtain ⟨i,_,rfl⟩:=List.mem_map.1 hx;rfl⟩,⟨rfl,fun x hx=>by obtain ⟨i,_,rfl⟩:=List.mem_map.1 hx;rfl⟩⟩⟩
theorem sh25:shOf zA2 8 25=some shWg:=by kernel_rfl
theorem sh27:shOf zA2 8 27=some (.sl false (.int .u16)):=by kernel_rfl
theorem laid0:laidOutB zA2=true:=by kernel_rfl
theorem arg_wg {T:Type} {enc:TypeId×Value→T} {W:World} {r:Reach} {b0:Nat} {v:Value} {d:DataW T} {ps:List MemPlace} (hval:Value.okWide zA2 W r b0 25 v) (hd:DataW.Trod enc zA2 W 0 (fun _=>true) true 25 v d ps) :
  ∃ (w:Wg) (vb va:AV),Rel (Cx.start W) (.agg [vb,va]) v∧WgAt [] w vb va:=by
 obtain ⟨avs,h1,h2⟩:=arg_agg Tryz.underlying25 sh25 hval hd
 obtain ⟨w,vb,va,rfl,h3⟩:=sh_wg h2
 exact ⟨w,vb,va,h1,h3⟩
theorem list_ofP {α:Type} {p:α→Prop} {f:α→AV}:∀ {es:List AV},(∀ x∈es,∃ a,p a∧x=f a)→∃ l:List α,es=l.map f∧∀ a∈l,p a
 | [],_=>⟨[],rfl,by simp⟩
 | x::r,h=>by
  obtain ⟨a,ha,rfl⟩:=h x (List.mem_cons_self ..)
  obtain ⟨l,rfl,hl⟩:=list_ofP fun y hy=>h y (List.mem_cons_of_mem _ hy)
  refine ⟨a::l,rfl,fun b hb=>?_⟩
  rcases List.mem_cons.1 hb with rfl | hb
  ·exact ha
  ·exact hl b hb
theorem len_of {T:Type} {enc:TypeId×Value→T} {W:World} {t e:TypeId} {v:Value} {d:DataW T} {ps:List MemPlace} {f:Bool} {es:List AV} (hu:zA2.underlying t=some (.slice e)) (h1:Rel (Cx.start W) (.sl f es) v) (hd:DataW.Trod enc zA2 W 0 (fun _=>true) true t v d ps):es.length≤9223372036854775807:=by
 rw [Rel] at h1
 obtain ⟨a,cap,rfl,⟨-,hc⟩,-,hy⟩:=h1
 obtain ⟨m,hm⟩:=hd
 cases m with
 | zero=>simp [DataW.trod] at hm
 | succ m =>
  cases a with
  | none =>
   rcases hy with hy | ⟨b,o,sz,ys,hy,-⟩
   ·have:=congrArg List.length hy
    simp at this
    simp [this]
   ·cases hy
  | some a =>
   simp only [DataW.trod,Value.cells,hu] at hm
   split at hm
   ·rename_i h
    have:maxLen=9223372036854775807:=rfl
    omega
   ·cases hm
theorem arg_u16s {T:Type} {enc:TypeId×Value→T} {W:World} {r:Reach} {b0:Nat} {v:Value} {d:DataW T} {ps:List MemPlace} (hval:Value.okWide zA2 W r b0 27 v) (hd:DataW.Trod enc zA2 W 0 (fun _=>true) true 27 v d ps) :
  ∃ (fl:Bool) (us:List Int),Rel (Cx.start W) (.sl fl (us.map B16)) v∧(us.length≤9223372036854775807∧∀ i,i<us.length→0≤us.getD i 0∧us.getD i 0≤65535):=by
 obtain ⟨f,es,h1,h2⟩:=arg_sl Tryz.underlying27 sh27 hval hd
 obtain ⟨ws,rfl,hw⟩:=list_ofP (p:=fun n:Int=>0≤n∧n≤65535) (f:=B16) (es:=es) fun x hx=>by
  obtain ⟨_,⟨n,rfl,hn⟩,rfl⟩:=h2 x hx
  exact ⟨n,bounds_u16 hn,rfl⟩
 have hl:=len_of Tryz.underlying27 h1 hd
 rw [List.length_map] at hl
 exact ⟨f,ws,h1,⟨hl,fun i hi=>hw _ (by simp [hi])⟩⟩
end Go.Ab
namespace Go.Ab
open Go.Proofs
set_option linter.unusedSimpArgs false
set_option linter.unusedVariables false
set_option maxRecDepth 100000
set_option maxHeartbeats 2000000
variable {H:Heap}
def Wg.brkF (w:Wg) (b:Bool) (xs:List Pc) (i:Nat):Option (Int×Int):=if w.jt b (pcA xs i) (pcA xs (i+1))=0 then none else some ((i:Int),w.jt b (pcA xs i) (pcA xs (i+1)))
def Wg.brk (w:Wg) (b:Bool) (xs:List Pc):Int×Int:=(findF (w.brkF b xs) 0 (xs.length-1)).getD (0,0)
def Wg.poks (w:Wg) (xs:List Pc):Prop:=∀ i,i<xs.length→w.pok (pcA xs i)
theorem stk_pok {w:Wg} {xs:List Pc} (h:w.stk xs=true):w.poks xs∧0<xs.length:=by
 simp only [Wg.stk,Bool.and_eq_true,Bool.not_eq_true',anyF_false,decide_eq_true_eq] at h
 refine ⟨fun i hi=>?_,by omega⟩
 have:=h.1 i (by omega) (by omega)
 simp only [Wg.badAt,Bool.or_eq_false_iff,Bool.not_eq_false',wi_iff] at this
 simp only [Wg.pok,Wg.n]
 omega
theorem brk_loop {l m:Nat} {w:Wg} {b:Bool} {vb va:AV} (h:ShAt H l m w b vb va) (hn:w.n≤5) (f:Bool) (xs:List Pc) (hx:xs.length≤1000) (hp:w.poks xs) (r:Int×Int) :
  ∀ (q j:Nat),j+q=xs.length-1→∀ (G:Heap),(findF (w.brkF b xs) j q).getD (0,0)=r→∀ E:Env,E.get 0=.ptr l 0→E.get 1=.sl f (xs.map Pc.av)→E.get 10=.sl false ((xs.drop 1).map Pc.av)→E.get 11=I (xs.length-1:Nat)→E.get 12=I j →
  Option.map (zAd H.length) (zAe cfg0 zA2 ⟨54,none,false,H.length⟩ (zA5 Tryz.f54 2) ⟨E,[],H++G,none⟩)=some ⟨.ret (.tup [I r.1,I r.2]),H,none⟩:=by
 intro q
 obtain ⟨a1,a2,a3,a4,a5⟩:=(slP (H:=H) (b:=f) xs).fF (d:=pc0)
 obtain ⟨b1,b2,b3,b4,b5⟩:=(slP (H:=H) (b:=false) (xs.drop 1)).fF (d:=pc0)
 have hdl:(xs.drop 1).length=xs.length-1:=List.length_drop
 have ll:(decide (l<H.length))=true:=by simp;exact (List.getElem?_eq_some_iff.1 h.box).1
 induction q with
 | zero =>
  intro j hj G hr E g0 g1 g10 g11 g12
  have hk':¬ (j:Int)<((xs.length-1:Nat):Int):=by omega
  simp only [findF,Option.getD_none] at hr
  subst hr
  simp only [zA6,zA4,zA5,zA7,zA3,↓reduceIte,Option.some.injEq,Nat.reduceEqDiff,reduceCtorEq,Tryz.f54]
  rw [zA0]
  simp -implicitDefEqProofs (maxSteps:=1000000) (disch:=first|rfl|omega|assumption) only [go_sem,g0,g1,g10,g11,g12,ltT,ltF,leT,hk',ll]
  done
 | succ q ih =>
  intro j hj G hr E g0 g1 g10 g11 g12
  have hk':(j:Int)<((xs.length-1:Nat):Int):=by omega
  have hk2:j<xs.length-1:=by omega
  have hu:findF (w.brkF b xs) j (q+1)=match w.brkF b xs j with
   | some x=>some x
   | none=>findF (w.brkF b xs) (j+1) q:=by simp only [findF];cases w.brkF b xs j<;>rfl
  rw [hu] at hr
  have hJ:=fun G=>wr_joint (h.app G) hn (hp j (by omega)) (hp (j+1) (by omega))
  have hgd:(xs.drop 1).getD j pc0=pcA xs (j+1):=by simp [pcA,Nat.add_comm]
  have hfd:w.brkF b xs j=if w.jt b (pcA xs j) (pcA xs (j+1))=0 then none else some ((j:Int),w.jt b (pcA xs j) (pcA xs (j+1))):=rfl
  rw [hfd] at hr
  obtain ⟨x,hxe⟩:∃ x,pcA xs j=x:=⟨_,rfl⟩
  obtain ⟨y,hye⟩:∃ x,pcA xs (j+1)=x:=⟨_,rfl⟩
  have hxe':xs.getD j pc0=x:=hxe
  rw [hye] at hgd
  rw [hxe,hye] at hr hJ
  generalize w.jt b x y=jt at *
  obtain ⟨xb,xu⟩:=x
  obtain ⟨yb,yu⟩:=y
  have hrx:∀ ty:Ty,zAf (Pc.av ⟨xb,xu⟩).cells 0 ty=zAf [I xb,I xu] 0 ty:=fun _=>rfl
  have hry:∀ ty:Ty,zAf (Pc.av ⟨yb,yu⟩).cells 0 ty=zAf [I yb,I yu] 0 ty:=fun _=>rfl
  simp only [Pc.av] at hJ
  by_cases c:jt=0
  ·subst c
   simp only [if_true] at hr
   simp only [zA6,zA4,zA5,zA7,zA3,↓reduceIte,Option.some.injEq,Nat.reduceEqDiff,reduceCtorEq,Tryz.f54]
   rw [zA0]
   simp -implicitDefEqProofs (maxSteps:=1000000) (disch:=first|rfl|omega|assumption) only [go_sem,g0,g1,g10,g11,g12,ltT,ltF,leT,hk',ll,a1,a2,a3,a4,a5,b1,b2,b3,b4,b5,hdl,hgd,hxe',hrx,hry,hJ]
   rw [zAa];rotate_left;kernel_rfl
   simp -implicitDefEqProofs (maxSteps:=1000000) (disch:=first|rfl|omega|assumption) only [go_sem,g0,g1,g10,g11,g12,ltT,ltF,leT,hk',ll,a1,a2,a3,a4,a5,b1,b2,b3,b4,b5,hdl,hgd,hxe',hrx,hry,hJ]
   exact ih (j+1) (by omega) [.box (.agg [I yb,I yu])] hr _ (by rfl) (by rfl) (by rfl) (by rfl) (by rfl)
  ·have c':(jt != 0)=true:=by simp [c]
   simp only [if_neg c,Option.getD_some] at hr
   subst hr
   simp only [zA6,zA4,zA5,zA7,zA3,↓reduceIte,Option.some.injEq,Nat.reduceEqDiff,reduceCtorEq,Tryz.f54]
   rw [zA0]
   simp -implicitDefEqProofs (maxSteps:=1000000) (disch:=first|rfl|omega|assumption) only [go_sem,g0,g1,g10,g11,g12,ltT,ltF,leT,hk',ll,a1,a2,a3,a4,a5,b1,b2,b3,b4,b5,hdl,hgd,hxe',hrx,hry,hJ,c']
   rw [zAa];rotate_left;kernel_rfl
   simp -implicitDefEqProofs (maxSteps:=1000000) (disch:=first|rfl|omega|assumption) only [go_sem,g0,g1,g10,g11,g12,ltT,ltF,leT,hk',ll,a1,a2,a3,a4,a5,b1,b2,b3,b4,b5,hdl,hgd,hxe',hrx,hry,hJ,c']
   done
theorem wr_broken {l m:Nat} {w:Wg} {b:Bool} {vb va:AV} (h:ShAt H l m w b vb va) (hn:w.n≤5) (f:Bool) (xs:List Pc) (hx:xs.length≤1000) (hp:w.poks xs) (h0:0<xs.length) :
  zA9 cfg0 zA2 false 54 [.ptr l 0,.sl f (xs.map Pc.av)] H none=some ⟨.ret (.tup [I (w.brk b xs).1,I (w.brk b xs).2]),H,none⟩:=by
 have h1:=brk_loop h hn f xs hx hp (w.brk b xs) (xs.length-1) 0 (by omega) [] rfl
 have hall:((xs.map Pc.av).all fun v=>v.cells.length==2)=true:=by simp [Pc.av,AV.cells]
 have htk:List.drop 1 (List.take xs.length (xs.map Pc.av))=(xs.drop 1).map Pc.av:=by rw [List.take_of_length_le (by simp),List.map_drop]
 have hdl:(xs.drop 1).length=xs.length-1:=List.length_drop
 have hbd:(1:Int)≤(xs.length:Int):=by omega
 refine (zA1 fn54 rfl (by simp [Tryz.f54])).trans ?_
 simp -implicitDefEqProofs (maxSteps:=1000000) (disch:=first|rfl|omega|assumption) only [go_sem,ltT,ltF,leT,hall,htk,hdl,hbd]
 simp only [List.append_nil] at h1
 exact h1 _ (by rfl) (by rfl) (by rfl) (by rfl) (by rfl)
theorem wd_Holdsn (l:Nat) (H:Heap):zA9 cfg0 zA2 true 52 [.ptr l 0] H none=some ⟨.ret (.tup []),H,none⟩:=by
 refine (zA1 fn52 rfl (by simp [Tryz.f52])).trans ?_
 simp -implicitDefEqProofs (maxSteps:=1000000) (disch:=first|rfl|omega|assumption) only [go_sem,ltT,ltF,leT,wr_stopn]
theorem wd_Holdss (l:Nat) (e x:Int) (H:Heap) (h:H[l]? = some (.box (I x))):zA9 cfg0 zA2 true 52 [.ptr l 0] H (some (.iface 152 (.agg [I e]),false))=some ⟨.ret (.tup []),H.set l (.box (I e)),some (.iface 152 (.agg [I e]),true)⟩:=by
 refine (zA1 fn52 rfl (by simp [Tryz.f52])).trans ?_
 simp -implicitDefEqProofs (maxSteps:=1000000) (disch:=first|rfl|omega|assumption) only [go_sem,ltT,ltF,leT,wr_stops l x e H h]
theorem wd_Lengthn (l:Nat) (H:Heap):zA9 cfg0 zA2 true 55 [.ptr l 0] H none=some ⟨.ret (.tup []),H,none⟩:=by
 refine (zA1 fn55 rfl (by simp [Tryz.f55])).trans ?_
 simp -implicitDefEqProofs (maxSteps:=1000000) (disch:=first|rfl|omega|assumption) only [go_sem,ltT,ltF,leT,wr_stopn]
theorem wd_Lengths (l:Nat) (e x:Int) (H:Heap) (h:H[l]? = some (.box (I x))):zA9 cfg0 zA2 true 55 [.ptr l 0] H (some (.iface 152 (.agg [I e]),false))=some ⟨.ret (.tup []),H.set l (.box (I e)),some (.iface 152 (.agg [I e]),true)⟩:=by
 refine (zA1 fn55 rfl (by simp [Tryz.f55])).trans ?_
 simp -implicitDefEqProofs (maxSteps:=1000000) (disch:=first|rfl|omega|assumption) only [go_sem,ltT,ltF,leT,wr_stops l x e H h]
theorem wd_Bestn (l:Nat) (H:Heap):zA9 cfg0 zA2 true 48 [.ptr l 0] H none=some ⟨.ret (.tup []),H,none⟩:=by
 refine (zA1 fn48 rfl (by simp [Tryz.f48])).trans ?_
 simp -implicitDefEqProofs (maxSteps:=1000000) (disch:=first|rfl|omega|assumption) only [go_sem,ltT,ltF,leT,wr_stopn]
theorem wd_Bests (l:Nat) (e x:Int) (H:Heap) (h:H[l]? = some (.box (I x))):zA9 cfg0 zA2 true 48 [.ptr l 0] H (some (.iface 152 (.agg [I e]),false))=some ⟨.ret (.tup []),H.set l (.box (I e)),some (.iface 152 (.agg [I e]),true)⟩:=by
 refine (zA1 fn48 rfl (by simp [Tryz.f48])).trans ?_
 simp -implicitDefEqProofs (maxSteps:=1000000) (disch:=first|rfl|omega|assumption) only [go_sem,ltT,ltF,leT,wr_stops l x e H h]
theorem wd_Hopen (l:Nat) (H:Heap):zA9 cfg0 zA2 true 32 [.ptr l 0] H none=some ⟨.ret (.tup []),H,none⟩:=by
 refine (zA1 fn32 rfl (by simp [Tryz.f32])).trans ?_
 simp -implicitDefEqProofs (maxSteps:=1000000) (disch:=first|rfl|omega|assumption) only [go_sem,ltT,ltF,leT,wr_stopn]
theorem wd_Hopes (l:Nat) (e x:Int) (H:Heap) (h:H[l]? = some (.box (I x))):zA9 cfg0 zA2 true 32 [.ptr l 0] H (some (.iface 152 (.agg [I e]),false))=some ⟨.ret (.tup []),H.set l (.box (I e)),some (.iface 152 (.agg [I e]),true)⟩:=by
 refine (zA1 fn32 rfl (by simp [Tryz.f32])).trans ?_
 simp -implicitDefEqProofs (maxSteps:=1000000) (disch:=first|rfl|omega|assumption) only [go_sem,ltT,ltF,leT,wr_stops l x e H h]
theorem wd_Polishn (l:Nat) (H:Heap):zA9 cfg0 zA2 true 40 [.ptr l 0] H none=some ⟨.ret (.tup []),H,none⟩:=by
 refine (zA1 fn40 rfl (by simp [Tryz.f40])).trans ?_
 simp -implicitDefEqProofs (maxSteps:=1000000) (disch:=first|rfl|omega|assumption) only [go_sem,ltT,ltF,leT,wr_stopn]
theorem wd_Polishs (l:Nat) (e x:Int) (H:Heap) (h:H[l]? = some (.box (I x))):zA9 cfg0 zA2 true 40 [.ptr l 0] H (some (.iface 152 (.agg [I e]),false))=some ⟨.ret (.tup []),H.set l (.box (I e)),some (.iface 152 (.agg [I e]),true)⟩:=by
 refine (zA1 fn40 rfl (by simp [Tryz.f40])).trans ?_
 simp -implicitDefEqProofs (maxSteps:=1000000) (disch:=first|rfl|omega|assumption) only [go_sem,ltT,ltF,leT,wr_stops l x e H h]
theorem opG_in {H G0:Heap} {n:Nat} {w:Wg} {vb va:AV} (hn:n=(H++G0).length) (h:WgAt H w vb va) (A:Heap):ShAt (H++(G0++(opG w vb va n++A))) (n+2) (n+1) w false vb va:=by
 subst hn
 have:=(opG_at (h.app G0)).app A
 simpa only [List.append_assoc] using this
def Wg.check (w:Wg) (xs:List Pc):Int×Int×Int:=if w.valid then (if w.stk xs then (if (w.brk false xs).2=0 then (0,0,4) else ((w.brk false xs).1,(w.brk false xs).2,0)) else (0,0,2)) else (0,0,1)
def Wg.holds (w:Wg) (xs:List Pc):Int×Int:=if w.valid then (if w.stk xs then (if (w.brk false xs).2=0 then (2,0) else if (w.brk true xs).2=0 then (1,0) else (0,0)) else (0,2)) else (0,1)
theorem wr_Holds {w:Wg} {vb va:AV} (h:WgAt H w vb va) (hl:w.bs.length≤1000∧w.ps.length≤1000) (f:Bool) (xs:List Pc) (hx:xs.length≤1000) :
  zA9 cfg0 zA2 false 15 [.agg [vb,va],.sl f (xs.map Pc.av)] H none=some ⟨.ret (.tup [I (w.holds xs).1,I (w.holds xs).2]),H,none⟩:=by
 have s1:=h.bs.scal
 have s2:=h.ps.scal
 have hI:=fun G=>wr_isStack (.sl f (xs.map Pc.av)) rfl (.inr trivial) G
 have hN:=fun G=>wd_Holdsn (H.length+1) G
 have hD:=fun (e:Int) (a:AO) (G:Heap)=>wd_Holdss (H.length+1) e 0 (H++(a::.box (I 0)::G)) (by rw [zAi 1];rfl)
 have hO:=wr_open (H:=H++[.box (.agg [vb,va]),.box (I 0),.box (.sl f (xs.map Pc.av))]) (h.app _) hl (.func 79) [.ptr (H.length+2) 0] (by simp [AV.lt,ltL,fnLt]) (w.stk xs) (fun hv=>by
  have ho:=w.valid_iff.1 hv
  have hs:=wr_stack1 (k:=H.length+2) (opG_at (h.app [.box (.agg [vb,va]),.box (I 0),.box (.sl f (xs.map Pc.av))])) ho.n.2 f xs hx (by rw [List.append_assoc,zAi 2];rfl)
  intro b0
  rw [callVL_func]
  exact hs)
 simp only [List.length_append,List.length_cons,List.length_nil,Nat.zero_add,Nat.reduceAdd,Nat.add_assoc,opG,List.append_assoc,List.cons_append,List.nil_append] at hO
 cases hv:w.valid
 ·simp only [hv,Bool.false_eq_true,if_false] at hO
  simp only [Wg.holds,hv,Bool.false_eq_true,if_false]
  refine (zA1 fn15 rfl (by simp [Tryz.f15])).trans ?_
  simp -implicitDefEqProofs (maxSteps:=1000000) (disch:=first|rfl|omega|assumption) only [go_sem,ltT,ltF,leT,s1,s2]
  rw [zAa];rotate_left;kernel_rfl
  simp -implicitDefEqProofs (maxSteps:=1000000) (disch:=first|rfl|omega|assumption) only [go_sem,ltT,ltF,leT,s1,s2,hI,hO,hD]
  done
 have ho:=w.valid_iff.1 hv
 simp only [hv,if_true] at hO
 simp only [Wg.holds,hv,if_true]
 cases hk:w.stk xs
 ·simp only [hk,Bool.false_eq_true,if_false] at hO ⊢
  refine (zA1 fn15 rfl (by simp [Tryz.f15])).trans ?_
  simp -implicitDefEqProofs (maxSteps:=1000000) (disch:=first|rfl|omega|assumption) only [go_sem,ltT,ltF,leT,s1,s2]
  rw [zAa];rotate_left;kernel_rfl
  simp -implicitDefEqProofs (maxSteps:=1000000) (disch:=first|rfl|omega|assumption) only [go_sem,ltT,ltF,leT,s1,s2,hI,hO,hD]
  done
 simp only [hk,if_true] at hO ⊢
 obtain ⟨hp,h0⟩:=stk_pok hk
 have hS:=opG_in (H:=H) (G0:=[.box (.agg [vb,va]),.box (I 0),.box (.sl f (xs.map Pc.av))]) (n:=H.length+3) (by simp) h
 have e30:=zBv w.b
 have hB:=wr_broken (hS []) ho.n.2 f xs hx hp h0
 have hIn:=wr_in (hS []) true
 have hS2:ShAt (H++([.box (.agg [vb,va]),.box (I 0),.box (.sl f (xs.map Pc.av))]++(opG w vb va (H.length+3)++[.box (.agg (shC vb va (fcsN w.b) (.iface 98 (.agg [I 1])) (H.length+4)))]))) (H.length+6) (H.length+4) w true vb va :=
  ⟨by rw [zAi 6];rfl,(hS _).map,(hS _).wat⟩
 have hB2:=wr_broken hS2 ho.n.2 f xs hx hp h0
 have hO1:=fun G=>wr_optimist G
 simp only [opG,List.cons_append,List.nil_append,List.append_nil,Nat.add_assoc,Nat.reduceAdd,show vwA true=.iface 98 (.agg [I 1]) from rfl,List.length_append,List.length_cons,List.length_nil,Nat.zero_add,List.append_assoc] at hB hIn hB2
 generalize w.brk false xs=br at *
 obtain ⟨b1,b2⟩:=br
 generalize w.brk true xs=br at *
 obtain ⟨b3,b4⟩:=br
 simp only at hB hB2 ⊢
 by_cases hb:b2=0
 ·subst hb
  simp only [if_true]
  refine (zA1 fn15 rfl (by simp [Tryz.f15])).trans ?_
  simp -implicitDefEqProofs (maxSteps:=1000000) (disch:=first|rfl|omega|assumption) only [go_sem,ltT,ltF,leT,s1,s2]
  rw [zAa];rotate_left;kernel_rfl
  simp -implicitDefEqProofs (maxSteps:=1000000) (disch:=first|rfl|omega|assumption) only [go_sem,ltT,ltF,leT,s1,s2,hI,hO,hB,hN]
  done
 ·have hb':(b2==0)=false:=by simp [hb]
  simp only [if_neg hb]
  refine (zA1 fn15 rfl (by simp [Tryz.f15])).trans ?_
  simp -implicitDefEqProofs (maxSteps:=1000000) (disch:=first|rfl|omega|assumption) only [go_sem,ltT,ltF,leT,s1,s2]
  rw [zAa];rotate_left;kernel_rfl
  simp -implicitDefEqProofs (maxSteps:=1000000) (disch:=first|rfl|omega|assumption) only [go_sem,ltT,ltF,leT,s1,s2,hI,hO,hB,hb']
  rw [zAa];rotate_left;kernel_rfl
  by_cases hb2:b4=0
  ·subst hb2
   simp only [if_true]
   simp -implicitDefEqProofs (maxSteps:=1000000) (disch:=first|rfl|omega|assumption) only [go_sem,ltT,ltF,leT,s1,s2,hO1,hIn,hB2,hN]
   done
  ·have hb2':(b4 != 0)=true:=by simp [hb2]
   simp only [if_neg hb2]
   simp -implicitDefEqProofs (maxSteps:=1000000) (disch:=first|rfl|omega|assumption) only [go_sem,ltT,ltF,leT,s1,s2,hO1,hIn,hB2,hb2',hN]
   done
end Go.Ab
