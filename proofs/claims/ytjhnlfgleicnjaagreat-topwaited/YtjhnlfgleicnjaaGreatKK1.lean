/- The layer settle: small functions. -/
import Derived.Test.YtjhnlfgleicnjaaGreatKK0
namespace Go.Ab
open Go.Proofs
set_option linter.unusedSimpArgs false
set_option linter.unusedVariables false
set_option maxRecDepth 100000
set_option maxHeartbeats 2000000
variable {H:Heap}
def zAm (x k:Int):Int:=if x<0 then -(-x-(-x+k-1).tdiv k) else x-(x+k-1).tdiv k
theorem tdiv_bd {a k:Int} (ha:0≤a) (hk:1≤k):0≤a.tdiv k∧a.tdiv k≤a:=by
 rw [Int.tdiv_eq_ediv_of_nonneg ha]
 exact ⟨Int.ediv_nonneg ha (by omega),Int.ediv_le_self _ ha⟩
structure Blk where
 (x0 x1 s0 s1 g0 g1:Int)
structure Tch where
 (b m h0 h1:Int)
structure Stl where
 bs:List Blk
 near:Int
 last:Int
 ts:List Tch
def Blk.av (b:Blk):AV:=.agg [I b.x0,I b.x1,I b.s0,I b.s1,I b.g0,I b.g1]
def Tch.av (t:Tch):AV:=.agg [I t.b,I t.m,I t.h0,I t.h1]
structure Blk.Ok (b:Blk):Prop where
 (a1 : -100≤b.x0) (a2:b.x0≤b.x1) (a3:b.x1≤100) (a4:2≤b.s0) (a5:b.s0≤b.s1) (a6:b.s1≤8) (a7:0≤b.g0) (a8:b.g0≤b.g1) (a9:b.g1≤20)
structure Stl.Wf (s:Stl):Prop where
 bs:∀ b∈s.bs,b.Ok
 ts:∀ t∈s.ts,-100≤t.h0∧t.h0≤t.h1∧t.h1≤100
 len:s.ts.length≤7
 near:0≤s.near∧s.near≤20
 last:1≤s.last∧s.last≤60
 blen:s.bs.length≤4
def Tch.h (t:Tch) (e:Int):Int:=if e=0 then t.h0 else t.h1
def Blk.x (b:Blk) (e:Int):Int:=if e=0 then b.x0 else b.x1
def zBb (ts:List Tch) (blk m e:Int):List Int:=(ts.filter fun t=>t.b==blk&&t.m==m).map (·.h e)
def exc (ts:List Tch) (blk:Int) (b0:Int) (k e:Int):Nat→Int
 | 0=>(zBb ts blk 0 e).sum+b0
 | n+1=>(zBb ts blk ((n+1:Nat):Int) e).sum+zAm (exc ts blk b0 k e n) k
theorem Tch.h_bd {t:Tch} {e:Int} (h : -100≤t.h0∧t.h0≤t.h1∧t.h1≤100) : -100≤t.h e∧t.h e≤100:=by
 simp only [Tch.h];split<;>omega
theorem heats_bd (ts:List Tch) (blk m e:Int) (h:∀ t∈ts,-100≤t.h0∧t.h0≤t.h1∧t.h1≤100):∀ x∈zBb ts blk m e,-100≤x∧x≤100:=by
 intro x hx
 simp only [zBb,List.mem_map,List.mem_filter] at hx
 obtain ⟨t,⟨h1,_⟩,rfl⟩:=hx
 exact Tch.h_bd (h t h1)
theorem heats_len (ts:List Tch) (blk m e:Int):(zBb ts blk m e).length≤ts.length:=by
 simp only [zBb,List.length_map]
 exact List.length_filter_le _ _
theorem sum_bd:∀ (l:List Int) (B:Int),(∀ x∈l,-B≤x∧x≤B) → -(B*l.length)≤l.sum∧l.sum≤B*l.length
 | [],B,_=>by simp
 | x::r,B,h=>by
  have h1:=h x (by simp)
  have h2:=sum_bd r B fun y hy=>h y (by simp [hy])
  simp only [List.sum_cons,List.length_cons]
  have:B*((r.length+1:Nat):Int)=B*r.length+B:=by rw [Int.natCast_add];rw [Int.mul_add];simp
  omega
theorem fallsZ_bd {x k:Int} (hk:1≤k):(0≤x→0≤zAm x k∧zAm x k≤x)∧(x≤0→x≤zAm x k∧zAm x k≤0):=by
 have key:∀ y:Int,0≤y→0≤y-(y+k-1).tdiv k∧y-(y+k-1).tdiv k≤y:=by
  intro y hy
  rw [Int.tdiv_eq_ediv_of_nonneg (by omega)]
  have h1:(y+k-1)/k<y+1:=by
   apply Int.ediv_lt_of_lt_mul (by omega)
   have:y*k≥y*1:=Int.mul_le_mul_of_nonneg_left hk hy
   rw [Int.add_mul];omega
  have h2:0≤(y+k-1)/k:=Int.ediv_nonneg (by omega) (by omega)
  omega
 constructor
 ·intro h
  simp only [zAm,if_neg (show ¬ x<0 by omega)]
  exact key x h
 ·intro h
  simp only [zAm]
  split
  ·have:=key (-x) (by omega)
   omega
  ·have:x=0:=by omega
   subst this
   exact ⟨(key 0 (by omega)).1,(key 0 (by omega)).2⟩
theorem exc_bd {ts:List Tch} {blk b0 k e:Int} (h:∀ t∈ts,-100≤t.h0∧t.h0≤t.h1∧t.h1≤100) (hl:ts.length≤7) (hb : -100≤b0∧b0≤100) (hk:1≤k):∀ n:Nat,-(800+700*n)≤exc ts blk b0 k e n∧exc ts blk b0 k e n≤800+700*n:=by
 have hs:∀ m:Int,-700≤(zBb ts blk m e).sum∧(zBb ts blk m e).sum≤700:=by
  intro m
  have h1:=sum_bd _ 100 (heats_bd ts blk m e h)
  have h2:=heats_len ts blk m e
  omega
 intro n
 induction n with
 | zero =>
  simp only [exc]
  have:=hs 0
  omega
 | succ n ih =>
  simp only [exc]
  have h1:=hs ((n+1:Nat):Int)
  obtain ⟨h2,h3⟩:=fallsZ_bd (x:=exc ts blk b0 k e n) hk
  rcases Int.le_total 0 (exc ts blk b0 k e n) with h4 | h4
  ·have:=h2 h4;omega
  ·have:=h3 h4;omega
theorem heats_step {ts:List Tch} {j:Nat} (hj:j<ts.length) (blk m e:Int):zBb (ts.take (j+1)) blk m e=zBb (ts.take j) blk m e++(if ts[j].b=blk∧ts[j].m=m then [ts[j].h e] else []):=by
 rw [List.take_succ_eq_append_getElem hj]
 simp only [zBb,List.filter_append,List.map_append]
 congr 1
 by_cases h1:ts[j].b=blk<;>by_cases h2:ts[j].m=m<;>simp [h1,h2]
theorem se_within (n lo hi:Int) (H:Heap):zA8 cfg0 zA0 false 60 [I n,I lo,I hi] H none=some ⟨.ret (.bool (wi n lo hi)),H,none⟩:=by
 refine (zA1 fn60 rfl (by simp [Tryz.f60])).trans ?_
 by_cases h1:lo≤n<;>simp -implicitDefEqProofs only [go_sem,h1,wi]
def spn (a b lo hi:Int):Bool:=decide (lo≤a)&&(decide (a≤b)&&decide (b≤hi))
theorem se_span (a b lo hi:Int) (H:Heap):zA8 cfg0 zA0 false 61 [.agg [I a,I b],I lo,I hi] H none=some ⟨.ret (.bool (spn a b lo hi)),H,none⟩:=by
 refine (zA1 fn61 rfl (by simp [Tryz.f61])).trans ?_
 by_cases h1:lo≤a
 ·by_cases h2:a≤b
  ·by_cases h3:b≤hi<;>simp -implicitDefEqProofs only [go_sem,h1,h2,h3,spn]
  ·simp -implicitDefEqProofs only [go_sem,h1,h2,spn]
 ·simp -implicitDefEqProofs only [go_sem,h1,spn]
theorem se_must (b:Bool) (e:Int) (H:Heap):zA8 cfg0 zA0 false 56 [.bool b,I e] H none=some ⟨if b then .ret (.tup []) else .pan (.iface 108 (.agg [I e])),H,none⟩:=by
 refine (zA1 fn56 rfl (by simp [Tryz.f56])).trans ?_
 cases b<;>simp -implicitDefEqProofs only [go_sem]
theorem se_stopn (l:Nat) (H:Heap):zA8 cfg0 zA0 false 25 [.nilIface,.ptr l 0] H none=some ⟨.ret (.tup []),H,none⟩:=by
 refine (zA1 fn25 rfl (by simp [Tryz.f25])).trans ?_
 simp -implicitDefEqProofs only [go_sem]
theorem se_stops (l:Nat) (x e:Int) (H:Heap) (h:H[l]? = some (.box (I x))):zA8 cfg0 zA0 false 25 [.iface 108 (.agg [I e]),.ptr l 0] H none=some ⟨.ret (.tup []),H.set l (.box (I e)),none⟩:=by
 have hl:l<H.length:=(List.getElem?_eq_some_iff.1 h).1
 refine (zA1 fn25 rfl (by simp [Tryz.f25])).trans ?_
 simp -implicitDefEqProofs only [go_sem,zA6 hl,set_lt hl,h]
theorem se_isWarm (n:Int) (H:Heap):zA8 cfg0 zA0 false 50 [I n] H none=some ⟨.ret (.bool (wi n (-100) 100)),H,none⟩:=by
 refine (zA1 fn50 rfl (by simp [Tryz.f50])).trans ?_
 simp -implicitDefEqProofs (maxSteps:=1000000) (disch:=first|rfl|omega|assumption) only [go_sem,ltT,ltF,leT,se_within]
 done
theorem se_fallsP (x k:Int) (H:Heap) (h0:0≤x) (h1:x≤1000000) (k1:1≤k) (k2:k≤1000000):zA8 cfg0 zA0 false 83 [I x,I k] H none=some ⟨.ret (I (zAm x k)),H,none⟩:=by
 have hn:¬ x<0:=by omega
 have hk:¬ k=0:=by omega
 obtain ⟨q1,q2⟩:=tdiv_bd (a:=x+k-1) (k:=k) (by omega) k1
 have e3:IntKind.i64.wrap ((x+k-1).tdiv k)=(x+k-1).tdiv k:=w64 (by omega) (by omega)
 have e4:IntKind.i64.wrap (x-(x+k-1).tdiv k)=x-(x+k-1).tdiv k:=w64 (by omega) (by omega)
 have e5:zAm x k=x-(x+k-1).tdiv k:=by simp only [zAm,if_neg hn]
 rw [e5]
 refine (zA1 fn83 rfl (by simp [Tryz.f83])).trans ?_
 simp -implicitDefEqProofs (maxSteps:=1000000) (disch:=first|rfl|omega|assumption) only [go_sem,ltT,ltF,leT,hn,hk,e3,e4]
 done
theorem se_falls (x k:Int) (H:Heap) (h0 : -1000000≤x) (h1:x≤1000000) (k1:1≤k) (k2:k≤1000000):zA8 cfg0 zA0 false 83 [I x,I k] H none=some ⟨.ret (I (zAm x k)),H,none⟩:=by
 by_cases hx:0≤x
 ·exact se_fallsP x k H hx h1 k1 k2
 ·have hn:x<0:=by omega
  have hn2:¬ -x<0:=by omega
  obtain ⟨q1,q2⟩:=tdiv_bd (a := -x+k-1) (k:=k) (by omega) k1
  have e1:IntKind.i64.wrap (0-x) = -x:=by rw [w64 (by omega) (by omega)];omega
  have e2:IntKind.i64.wrap (0-zAm (-x) k)=zAm x k:=by
   simp only [zAm,if_pos hn,if_neg hn2]
   rw [w64 (by omega) (by omega)];omega
  have hp:=se_fallsP (-x) k H (by omega) (by omega) k1 k2
  refine (zA1 fn83 rfl (by simp [Tryz.f83])).trans ?_
  simp -implicitDefEqProofs (maxSteps:=1000000) (disch:=first|rfl|omega|assumption) only [go_sem,ltT,ltF,leT,hn,e1,hp,e2]
  done
theorem se_cold (a b:Int) (H:Heap):zA8 cfg0 zA0 false 119 [.agg [],.agg [I a,I b]] H none=some ⟨.ret (I a),H,none⟩:=by
 refine (zA1 fn119 rfl (by simp [Tryz.f119])).trans ?_
 simp -implicitDefEqProofs (maxSteps:=1000000) (disch:=first|rfl|omega|assumption) only [go_sem,ltT,ltF,leT]
 done
theorem se_ends (H:Heap):zA8 cfg0 zA0 false 82 [] H none=some ⟨.ret (.agg [.iface 175 (.agg []),.iface 177 (.agg [])]),H,none⟩:=by
 refine (zA1 fn82 rfl (by simp [Tryz.f82])).trans ?_
 simp -implicitDefEqProofs (maxSteps:=1000000) (disch:=first|rfl|omega|assumption) only [go_sem,ltT,ltF,leT]
 done
theorem ss_loop {v:AV} {xs:List Int} (h:SlOk H 1 v (xs.map I)) (hb:∀ i,i<xs.length → -1000000≤xs.getD i 0∧xs.getD i 0≤1000000) (hl:xs.length≤1000000) (r:Int) :
  ∀ (q j:Nat),j+q=xs.length→∀ (acc:Int),-(1000000*(j:Int))≤acc∧acc≤1000000*(j:Int)→acc+(xs.drop j).sum=r→∀ E:Env,E.get 2=I acc→E.get 5=v→E.get 6=I xs.length→E.get 7=I j →
  Option.map (zAi H.length) (zAh cfg0 zA0 ⟨84,none,false,H.length⟩ (zA7 Tryz.f84 2) ⟨E,[],H,none⟩)=some ⟨.ret (I r),H,none⟩:=by
 intro q
 obtain ⟨a1,a2,a3,a4⟩:=h.fI
 have hs1:=h.scal
 have t1:=h.ltn 0
 have t0:=h.lt0
 induction q with
 | zero =>
  intro j hj acc ha hr E g2 g5 g6 g7
  have hk':¬ (j:Int)<((xs.length:Nat):Int):=by omega
  have hd:xs.drop j=[]:=List.drop_eq_nil_of_le (by omega)
  rw [hd,List.sum_nil,Int.add_zero] at hr
  subst hr
  simp only [zAb,zA4,zA7,zAa,zA3,↓reduceIte,Option.some.injEq,Nat.reduceEqDiff,reduceCtorEq,Tryz.f84]
  rw [zA2]
  simp -implicitDefEqProofs (maxSteps:=1000000) (disch:=first|rfl|omega|assumption) only [go_sem,g2,g5,g6,g7,ltT,ltF,leT,hk',hs1,t1,t0]
  done
 | succ q ih =>
  intro j hj acc ha hr E g2 g5 g6 g7
  have hk':(j:Int)<((xs.length:Nat):Int):=by omega
  have hk2:j<xs.length:=by omega
  have hx:=hb j hk2
  have hd:xs.drop j=xs.getD j 0::xs.drop (j+1):=by
   rw [List.drop_eq_getElem_cons hk2];simp [hk2]
  rw [hd,List.sum_cons] at hr
  obtain ⟨x,hxe⟩:∃ x,xs.getD j 0=x:=⟨_,rfl⟩
  rw [hxe] at hx hr
  have e2:IntKind.i64.wrap (acc+x)=acc+x:=w64 (by omega) (by omega)
  have key:=ih (j+1) (by omega) (acc+x) (by omega) (by omega)
  simp only [zAb,zA4,zA7,zAa,zA3,↓reduceIte,Option.some.injEq,Nat.reduceEqDiff,reduceCtorEq,Tryz.f84]
  rw [zA2]
  simp -implicitDefEqProofs (maxSteps:=1000000) (disch:=first|rfl|omega|assumption) only [go_sem,g2,g5,g6,g7,ltT,ltF,leT,hk',hs1,t1,t0,a1,a2,a3,a4,hxe,e2]
  exact key _ (by rfl) (by rfl) (by rfl) (by rfl)
theorem se_sum {v:AV} {xs:List Int} (h:SlOk H 1 v (xs.map I)) (hb:∀ i,i<xs.length → -1000000≤xs.getD i 0∧xs.getD i 0≤1000000) (hl:xs.length≤1000000):zA8 cfg0 zA0 false 84 [v] H none=some ⟨.ret (I xs.sum),H,none⟩:=by
 have hs1:=h.scal
 have t0:=h.lt0
 have l1:=h.len
 rw [List.length_map] at l1
 have key:=ss_loop h hb hl xs.sum xs.length 0 (by omega) 0 (by omega) (by simp)
 refine (zA1 fn84 rfl (by simp [Tryz.f84])).trans ?_
 simp -implicitDefEqProofs (maxSteps:=1000000) (disch:=first|rfl|omega|assumption) only [go_sem,ltT,ltF,leT,hs1,t0,l1]
 exact key _ (by rfl) (by rfl) (by rfl) (by rfl)
theorem sl_full {H:Heap} {sz:Nat} {xs:List AV} (h:∀ x∈xs,x.cells.length=sz):SlOk H sz (.sl true xs) xs:=⟨rfl,h⟩
theorem se_warm (a b:Int) (H:Heap) (ha : -1000000≤a∧a≤1000000) (hb : -1000000≤b∧b≤1000000) (hd : -1000000≤b-a∧b-a≤1000000):zA8 cfg0 zA0 false 120 [.agg [],.agg [I a,I b]] H none=some ⟨.ret (I b),H,none⟩:=by
 have hs:=se_sum (H:=H++[.box (.agg []),.box (.agg [I a,I b])]) (v:=.sl true [I a,I (b-a)]) (xs:=[a,b-a]) (sl_full (by simp [AV.cells])) (fun i hi=>by
  have:i=0∨i=1:=by simp at hi;omega
  rcases this with rfl | rfl<;>simp<;>omega) (by simp)
 have e2:[a,b-a].sum=b:=by simp;omega
 rw [e2] at hs
 refine (zA1 fn120 rfl (by simp [Tryz.f120])).trans ?_
 simp -implicitDefEqProofs (maxSteps:=1000000) (disch:=first|rfl|omega|assumption) only [go_sem,ltT,ltF,leT]
 rw [zAg];rotate_left;kernel_rfl
 simp -implicitDefEqProofs (maxSteps:=1000000) (disch:=first|rfl|omega|assumption) only [go_sem,ltT,ltF,leT,se_cold,hs]
 done
structure PlOk (H:Heap) (L M:Nat) (vb vt:AV) (s:Stl) (es:List (AV×AV)):Prop where
 box:H[L]? = some (.box (.agg [vb,I s.near,I s.last,vt,.map M]))
 mp:H[M]? = some (.map 122 es)
 bs:SlOk H 6 vb (s.bs.map Blk.av)
 ts:SlOk H 4 vt (s.ts.map Tch.av)
def Good (s:Stl) (es:List (AV×AV)):Prop:=(∀ N,mapLt N es=true)∧∀ (blk:Int) (n:Nat) (k e:Int) (b:Blk),0≤blk→s.bs[blk.toNat]? = some b→∀ v,zAj (.agg [I blk,I n,I k,I e]) es=some v→v=I (exc s.ts blk (b.x e) k e n)
theorem lookup_put (k v k':AV):∀ es:List (AV×AV),zAj k' (putM k v es)=if k'.same k then some v else zAj k' es
 | []=>by simp [putM,zAj]
 | (k1,v1)::r=>by
  by_cases h:k.same k1
  ·have:=same_eq _ _ h
   subst this
   simp only [putM,h,if_true,zAj]
   split<;>simp_all
  ·simp only [putM,h,zAj]
   by_cases h2:k'.same k1
   ·have:=same_eq _ _ h2
    subst this
    have h3:k'.same k=false:=by
     cases h4:k'.same k with
     | false=>rfl
     | true =>
      have:=same_eq _ _ h4
      subst this
      exact absurd (AV.same_refl _) h
    simp [h3,AV.same_refl,zAj]
   ·simp [h2,lookup_put k v k' r,zAj]
theorem mapLt_put {N:Nat} {k v:AV} (hk:k.lt N=true) (hv:v.lt N=true):∀ es:List (AV×AV),mapLt N es=true→mapLt N (putM k v es)=true
 | [],_=>by simp [putM,mapLt,hk,hv]
 | (k1,v1)::r,h=>by
  simp only [mapLt,Bool.and_eq_true] at h
  simp only [putM]
  split
  ·simp only [mapLt,hk,hv,h.2.2,Bool.and_self]
  ·simp only [mapLt,h.1,h.2.1,mapLt_put hk hv r h.2.2,Bool.and_self]
theorem Good.put {s:Stl} {es:List (AV×AV)} (h:Good s es) {blk:Int} {n:Nat} {k e:Int} {b:Blk} (h0:0≤blk) (hb:s.bs[blk.toNat]? = some b):Good s (putM (.agg [I blk,I n,I k,I e]) (I (exc s.ts blk (b.x e) k e n)) es):=by
 refine ⟨fun N=>mapLt_put rfl rfl es (h.1 N),?_⟩
 intro blk' n' k' e' b' h0' hb' v hv
 rw [lookup_put] at hv
 split at hv
 ·rename_i hsame
  have:=same_eq _ _ hsame
  simp only [I,AV.agg.injEq,List.cons.injEq,AV.int.injEq,true_and,and_true,Int.natCast_inj] at this
  obtain ⟨rfl,rfl,rfl,rfl⟩:=this
  rw [hb] at hb'
  cases hb'
  cases hv
  rfl
 ·exact h.2 blk' n' k' e' b' h0' hb' v hv
theorem Good.nil (s:Stl):Good s []:=by
 refine ⟨fun _=>rfl,?_⟩
 intro _ _ _ _ _ _ _ v hv
 simp [zAj] at hv
theorem PlOk.hL {L M:Nat} {vb vt:AV} {s:Stl} {es:List (AV×AV)} (hp:PlOk H L M vb vt s es):L<H.length:=(List.getElem?_eq_some_iff.1 hp.box).1
theorem PlOk.hM {L M:Nat} {vb vt:AV} {s:Stl} {es:List (AV×AV)} (hp:PlOk H L M vb vt s es):M<H.length:=(List.getElem?_eq_some_iff.1 hp.mp).1
theorem PlOk.ne {L M:Nat} {vb vt:AV} {s:Stl} {es:List (AV×AV)} (hp:PlOk H L M vb vt s es):M≠L:=by
 rintro rfl
 have h1:=hp.box
 rw [hp.mp] at h1
 cases h1
theorem PlOk.app {L M:Nat} {vb vt:AV} {s:Stl} {es:List (AV×AV)} (hp:PlOk H L M vb vt s es) (G:Heap):PlOk (H++G) L M vb vt s es :=
 ⟨by rw [zA6 hp.hL];exact hp.box,by rw [zA6 hp.hM];exact hp.mp,hp.bs.app _,hp.ts.app _⟩
theorem SlOk.setM {sz:Nat} {v:AV} {xs:List AV} (h:SlOk H sz v xs) {M:Nat} {es:List (AV×AV)} (hm:H[M]? = some (.map 122 es)) (o:AO):SlOk (H.set M o) sz v xs:=by
 obtain ⟨h1,h2⟩:=h
 refine ⟨?_,h2⟩
 cases v<;>simp only at h1 ⊢
 ·exact h1
 ·rename_i l n
  refine ⟨?_,h1.2⟩
  rw [List.getElem?_set_ne]
  ·exact h1.1
  ·rintro rfl
   rw [hm] at h1
   cases h1.1
theorem PlOk.set {L M:Nat} {vb vt:AV} {s:Stl} {es:List (AV×AV)} (hp:PlOk H L M vb vt s es) (es':List (AV×AV)):PlOk (H.set M (.map 122 es')) L M vb vt s es' :=
 ⟨by rw [List.getElem?_set_ne hp.ne];exact hp.box,List.getElem?_set_self hp.hM,hp.bs.setM hp.mp _,hp.ts.setM hp.mp _⟩
theorem of_cold (bb:Nat) (G:Heap) (a b:Int) (_ : -100≤a) (_:a≤b) (_:b≤100):zAw cfg0 zA0 bb false (.method "blockworks/settle.of") [.iface 175 (.agg []),.agg [I a,I b]] [] G none=some ⟨.ret (I (if (0:Int)=0 then a else b)),G,none⟩:=by
 have h1:=se_cold a b G
 simp only [if_true]
 simp -implicitDefEqProofs (maxSteps:=1000000) (disch:=first|rfl|omega|assumption) only [go_sem,ltT,ltF,leT,h1]
 done
theorem of_warm (bb:Nat) (G:Heap) (a b:Int) (_ : -100≤a) (_:a≤b) (_:b≤100):zAw cfg0 zA0 bb false (.method "blockworks/settle.of") [.iface 177 (.agg []),.agg [I a,I b]] [] G none=some ⟨.ret (I (if (1:Int)=0 then a else b)),G,none⟩:=by
 have h1:=se_warm a b G (by omega) (by omega) (by omega)
 have h2:(if (1:Int)=0 then a else b)=b:=by rw [if_neg (by decide)]
 rw [h2]
 simp -implicitDefEqProofs (maxSteps:=1000000) (disch:=first|rfl|omega|assumption) only [go_sem,ltT,ltF,leT,h1]
 done
def mvA (blk m k e:Int):AV:=.agg [I blk,I m,I k,I e]
theorem ex_loop {L:Nat} {vt:AV} {ts:List Tch} (hL:L<H.length) (hv:SlOk H 4 vt (ts.map Tch.av)) (hb:∀ t∈ts,-100≤t.h0∧t.h0≤t.h1∧t.h1≤100) (hl:ts.length≤7) (blk m k e:Int) (fv:AV) (hfv:∀ N,fv.lt N=true) (hof:∀ (bb:Nat) (G:Heap) (a b:Int),-100≤a→a≤b→b≤100→zAw cfg0 zA0 bb false (.method "blockworks/settle.of") [fv,.agg [I a,I b]] [] G none=some ⟨.ret (I (if e=0 then a else b)),G,none⟩) (K:List Item) (R:Option Done) (hK:∀ E:Env,E.get 0=.ptr L 0→E.get 3=.ptr H.length 0→E.get 7=.func (.method "blockworks/settle.of") [fv] []→E.get 8=.gsl (H.length+1) (zBb ts blk m e).length→Option.map (zAi H.length) (zAh cfg0 zA0 ⟨69,none,false,H.length⟩ K ⟨E,[],H++[.box (.agg [I blk,I m,I k,I e]),.grow 1 ((zBb ts blk m e).map I)],none⟩)=R)  :
  ∀ (q j:Nat),j+q=ts.length→∀ (G:Heap),∀ (xs:List Int),xs=zBb (ts.take j) blk m e→∀ E:Env,E.get 0=.ptr L 0→E.get 3=.ptr H.length 0→E.get 7=.func (.method "blockworks/settle.of") [fv] []→E.get 8=.gsl (H.length+1) xs.length→E.get 36=vt→E.get 37=I ts.length→E.get 38=I j →
  Option.map (zAi H.length) (zAh cfg0 zA0 ⟨69,none,false,H.length⟩ (zAb Tryz.f69 7::.inBlock 0::K) ⟨E,[],H++(.box (.agg [I blk,I m,I k,I e])::.grow 1 (xs.map I)::G),none⟩)=R:=by
 intro q
 obtain ⟨a1,a2,a3,a4,a5⟩:=hv.fF (d:=(⟨0,0,0,0⟩:Tch))
 have hs1:=hv.scal
 have t1:=hv.ltn 2
 have hL2:L<H.length+2:=by omega
 have hfl:∀ N,ltL N [fv]=true:=fun N=>by simp [ltL,hfv]
 induction q with
 | zero =>
  intro j hj G xs hxs E g0 g3 g7 g8 g36 g37 g38
  have hk':¬ (j:Int)<((ts.length:Nat):Int):=by omega
  have ej:j=ts.length:=by omega
  rw [ej,List.take_length] at hxs
  subst hxs
  have t2:∀ N,ltL N ((zBb ts blk m e).map I)=true:=fun N=>ltL_map (fun _=>rfl) _
  simp only [zAb,zA4,zA7,zAa,zA3,↓reduceIte,Option.some.injEq,Nat.reduceEqDiff,reduceCtorEq,Tryz.f69]
  rw [zA2]
  simp -implicitDefEqProofs (maxSteps:=1000000) (disch:=first|rfl|omega|assumption) only [go_sem,g0,g3,g7,g8,g36,g37,g38,ltT,ltF,leT,hk',hs1,t1,hL2,hfl,t2]
  exact hK _ (by rfl) (by rfl) (by rfl) (by rfl)
 | succ q ih =>
  intro j hj G xs hxs E g0 g3 g7 g8 g36 g37 g38
  have hk':(j:Int)<((ts.length:Nat):Int):=by omega
  have hk2:j<ts.length:=by omega
  have t2:∀ N,ltL N (xs.map I)=true:=fun N=>ltL_map (fun _=>rfl) _
  obtain ⟨t,ht⟩:∃ t,ts.getD j (⟨0,0,0,0⟩:Tch)=t:=⟨_,rfl⟩
  have hst:=heats_step hk2 blk m e
  have htj:ts[j]=t:=by rw [← ht];simp [hk2]
  have htb:=hb t (by rw [← htj];exact List.getElem_mem _)
  rw [htj,← hxs] at hst
  obtain ⟨tb,tm,th0,th1⟩:=t
  simp only at htb hst
  have hcl:∀ x:Tch,x.av.cells=[I x.b,I x.m,I x.h0,I x.h1]:=fun _=>rfl
  have hc:=fun (bb:Nat) G=>hof bb G th0 th1 htb.1 htb.2.1 htb.2.2
  have hxl:xs.length≤7:=by
   rw [hxs]
   have h1:=heats_len (ts.take j) blk m e
   have h2:(ts.take j).length≤7:=by rw [List.length_take];omega
   omega
  by_cases h1:tb=blk
  ·by_cases h2:tm=m
   ·have b1:(tb==blk)=true:=by simp [h1]
    have b2:(tm==m)=true:=by simp [h2]
    rw [if_pos ⟨h1,h2⟩] at hst
    have hth:(⟨tb,tm,th0,th1⟩:Tch).h e=if e=0 then th0 else th1:=rfl
    rw [hth] at hst
    obtain ⟨y,hy⟩:∃ y,(if e=0 then th0 else th1)=y:=⟨_,rfl⟩
    rw [hy] at hst hc
    have hadd:∀ (o0:AO) (G:Heap),zBo (H++(o0::.grow 1 (xs.map I)::G)) 1 false (.gsl (H.length+1) xs.length) [I y]=some (.gsl (H.length+1) (xs.length+1),H++(o0::.grow 1 ((xs++[y]).map I)::G)):=fun o0 G=>by
     rw [add_gsl (xs:=xs.map I) (by rw [zAe];rfl) (by simp) (by rfl) (by rfl) (by simp;omega),zBs]
     simp
    have key:=fun G=>ih (j+1) (by omega) G (xs++[y]) hst.symm
    have hly:(xs++[y]).length=xs.length+1:=by simp
    rw [hly] at key
    simp only [zAb,zA4,zA7,zAa,zA3,↓reduceIte,Option.some.injEq,Nat.reduceEqDiff,reduceCtorEq,Tryz.f69]
    rw [zA2]
    simp -implicitDefEqProofs (maxSteps:=1000000) (disch:=first|rfl|omega|assumption) only [go_sem,g0,g3,g7,g8,g36,g37,g38,ltT,ltF,leT,hk',hs1,t1,hL2,hfl,t2,a1,a2,a3,a4,a5,ht,hcl,b1,b2,hc,hadd]
    exact key _ _ (by rfl) (by rfl) (by rfl) (by rfl) (by rfl) (by rfl) (by rfl)
   ·have b1:(tb==blk)=true:=by simp [h1]
    have b2:(tm==m)=false:=by simp [h2]
    rw [if_neg (by simp [h2]),List.append_nil] at hst
    have key:=fun G=>ih (j+1) (by omega) G xs hst.symm
    simp only [zAb,zA4,zA7,zAa,zA3,↓reduceIte,Option.some.injEq,Nat.reduceEqDiff,reduceCtorEq,Tryz.f69]
    rw [zA2]
    simp -implicitDefEqProofs (maxSteps:=1000000) (disch:=first|rfl|omega|assumption) only [go_sem,g0,g3,g7,g8,g36,g37,g38,ltT,ltF,leT,hk',hs1,t1,hL2,hfl,t2,a1,a2,a3,a4,a5,ht,hcl,b1,b2,hc]
    exact key _ _ (by rfl) (by rfl) (by rfl) (by rfl) (by rfl) (by rfl) (by rfl)
  ·have b1:(tb==blk)=false:=by simp [h1]
   rw [if_neg (by simp [h1]),List.append_nil] at hst
   have key:=fun G=>ih (j+1) (by omega) G xs hst.symm
   simp only [zAb,zA4,zA7,zAa,zA3,↓reduceIte,Option.some.injEq,Nat.reduceEqDiff,reduceCtorEq,Tryz.f69]
   rw [zA2]
   simp -implicitDefEqProofs (maxSteps:=1000000) (disch:=first|rfl|omega|assumption) only [go_sem,g0,g3,g7,g8,g36,g37,g38,ltT,ltF,leT,hk',hs1,t1,hL2,hfl,t2,a1,a2,a3,a4,a5,ht,hcl,b1,hc]
   exact key _ _ (by rfl) (by rfl) (by rfl) (by rfl) (by rfl) (by rfl) (by rfl)
theorem sum_fact (G H:Heap) (hG:G.length=H.length) (o:AO) (A:Heap) (hs:List Int) (x:Int) (hl:hs.length≤1000) (hb:∀ y∈hs,-100≤y∧y≤100) (hx : -1000000≤x∧x≤1000000) :
  zA8 cfg0 zA0 false 84 [.gsl (H.length+1) (hs.length+1)] (G++(o::.grow 1 (hs.map I++[I x])::A)) none=some ⟨.ret (I (hs.sum+x)),G++(o::.grow 1 (hs.map I++[I x])::A),none⟩:=by
 rw [← hG]
 have:=se_sum (H:=G++(o::.grow 1 (hs.map I++[I x])::A)) (v:=.gsl (G.length+1) (hs.length+1)) (xs:=hs++[x]) ⟨⟨by rw [zAe];simp,by simp⟩,fun y hy=>by
  obtain ⟨z,_,rfl⟩:=List.mem_map.1 hy;rfl⟩ (fun i hi=>by
  have hm:(hs++[x]).getD i 0∈hs++[x]:=by
   rw [List.getD_eq_getElem?_getD,List.getElem?_eq_getElem hi];exact List.getElem_mem _
  rcases List.mem_append.1 hm with h | h
  ·have:=hb _ h;omega
  ·rw [List.mem_singleton] at h;omega) (by simp;omega)
 rw [this]
 simp
theorem app_fact (G H:Heap) (hG:G.length=H.length) (o:AO) (A:Heap) (hs:List Int) (x:Int) (hl:hs.length≤1000) :
  zBo (G++(o::.grow 1 (hs.map I)::A)) 1 false (.gsl (H.length+1) hs.length) [I x]=some (.gsl (H.length+1) (hs.length+1),G++(o::.grow 1 (hs.map I++[I x])::A)):=by
 rw [← hG,add_gsl (xs:=hs.map I) (by rw [zAe];rfl) (by simp) rfl rfl (by simp;omega),zBs]
 rfl
theorem take_setL {H1:Heap} {n:Nat} (h:H1.length=n) (M:Nat) (o:AO) (A:Heap):(H1.set M o++A).take n=H1.set M o:=by
 subst h
 have:(H1.set M o).length=H1.length:=List.length_set
 rw [← this,List.take_left]
theorem ez0 {L M:Nat} {vb vt:AV} {s:Stl} (hs:s.Wf) {blk k:Int} {b:Blk} (h0:0≤blk) (hb:s.bs[blk.toNat]? = some b) {es:List (AV×AV)} (hp:PlOk H L M vb vt s es) (hlk:zAj (.agg [I blk,I 0,I k,I 0]) es=none) :
  zA8 cfg0 zA0 false 69 [.ptr L 0,.agg [I blk,I 0,I k,I 0]] H none=some ⟨.ret (I (exc s.ts blk (b.x 0) k 0 0)),H.set M (.map 122 (putM (.agg [I blk,I 0,I k,I 0]) (I (exc s.ts blk (b.x 0) k 0 0)) es)),none⟩:=by
 have hk':True:=trivial
 have hL:=hp.hL
 have hM:=hp.hM
 have hbt:0≤blk∧blk<s.bs.length:=by
  have:=(List.getElem?_eq_some_iff.1 hb).1
  omega
 obtain ⟨a1,a2,a3,a4,a5⟩:=hp.bs.fF (d:=(⟨0,0,0,0,0,0⟩:Blk))
 have hbd:s.bs.getD blk.toNat ⟨0,0,0,0,0,0⟩=b:=by rw [List.getD_eq_getElem?_getD,hb];rfl
 have hcl:∀ x:Blk,x.av.cells=[I x.x0,I x.x1,I x.s0,I x.s1,I x.g0,I x.g1]:=fun _=>rfl
 have hbo:=hs.bs b (List.mem_of_getElem? hb)
 obtain ⟨o1,o2,o3,o4,o5,o6,o7,o8,o9⟩:=hbo
 have hsb:=heats_bd s.ts blk 0 0 hs.ts
 have hsl:(zBb s.ts blk 0 0).length≤1000:=by have:=heats_len s.ts blk 0 0;have:=hs.len;omega
 have hof:=of_cold
 have hbx:b.x 0=b.x0:=rfl
 have hex:exc s.ts blk (b.x 0) k 0 0=(zBb s.ts blk 0 0).sum+b.x0:=rfl
 have lt:=hp.ts.len
 rw [List.length_map] at lt
 have hs1:=hp.bs.scal
 have hs2:=hp.ts.scal
 have hq:=ex_loop hL hp.ts hs.ts hs.len blk 0 k 0 (.iface 175 (.agg [])) (fun _=>rfl) hof
 have hadd:=fun (o:AO) (A:Heap)=>app_fact H H rfl o A (zBb s.ts blk 0 0) b.x0 hsl
 have hsum:=fun (o:AO) (A:Heap)=>sum_fact H H rfl o A (zBb s.ts blk 0 0) b.x0 hsl hsb (by omega)
 have hof':=fun (bb:Nat) G=>hof bb G b.x0 b.x1 (by omega) (by omega) (by omega)
 simp only [if_true] at hof'
 rw [hex]
 refine (zA1 fn69 rfl (by simp [Tryz.f69])).trans ?_
 simp -implicitDefEqProofs (maxSteps:=1000000) (disch:=first|rfl|omega|assumption) only [go_sem,ltT,ltF,leT,zA6 hL,hp.box]
 rw [zAg];rotate_left;kernel_rfl
 simp -implicitDefEqProofs (maxSteps:=1000000) (disch:=first|rfl|omega|assumption) only [go_sem,ltT,ltF,leT,zA6 hL,zA6 hM,hp.box,hp.mp,hlk]
 rw [zAg];rotate_left;kernel_rfl
 simp -implicitDefEqProofs (maxSteps:=1000000) (disch:=first|rfl|omega|assumption) only [go_sem,ltT,ltF,leT,zA6 hL,zA6 hM,hp.box,hp.mp,hlk,se_ends,lt,hs1,hs2]
 refine hq _ _ (fun E g0 g3 g7 g8=>?_) s.ts.length 0 (by omega) [] [] (by simp [zBb]) _ (by rfl) (by rfl) (by rfl) (by rfl) (by rfl) (by rfl) (by rfl)
 simp -implicitDefEqProofs (maxSteps:=1000000) (disch:=first|rfl|omega|assumption) only [go_sem,g0,g3,g7,g8,ltT,ltF,leT,hk',hs1,hs2]
 rw [zAg];rotate_left;kernel_rfl
 simp -implicitDefEqProofs (maxSteps:=1000000) (disch:=first|rfl|omega|assumption) only [go_sem,g0,g3,g7,g8,ltT,ltF,leT,hk',hs1,hs2,zA6 hL,zA6 hM,hp.box,hp.mp,a1,a2,a3,a4,a5,hbd,hcl,hof',se_cold,hadd,hsum]
 rw [zAg];rotate_left;kernel_rfl
 simp -implicitDefEqProofs (maxSteps:=1000000) (disch:=first|rfl|omega|assumption) only [go_sem,g0,g3,g7,g8,ltT,ltF,leT,hk',hs1,hs2,zA6 hL,zA6 hM,hp.box,hp.mp,set_lt hM]
 done
theorem ez1 {L M:Nat} {vb vt:AV} {s:Stl} (hs:s.Wf) {blk k:Int} {b:Blk} (h0:0≤blk) (hb:s.bs[blk.toNat]? = some b) {es:List (AV×AV)} (hp:PlOk H L M vb vt s es) (hlk:zAj (.agg [I blk,I 0,I k,I 1]) es=none) :
  zA8 cfg0 zA0 false 69 [.ptr L 0,.agg [I blk,I 0,I k,I 1]] H none=some ⟨.ret (I (exc s.ts blk (b.x 1) k 1 0)),H.set M (.map 122 (putM (.agg [I blk,I 0,I k,I 1]) (I (exc s.ts blk (b.x 1) k 1 0)) es)),none⟩:=by
 have hk':True:=trivial
 have hL:=hp.hL
 have hM:=hp.hM
 have hbt:0≤blk∧blk<s.bs.length:=by
  have:=(List.getElem?_eq_some_iff.1 hb).1
  omega
 obtain ⟨a1,a2,a3,a4,a5⟩:=hp.bs.fF (d:=(⟨0,0,0,0,0,0⟩:Blk))
 have hbd:s.bs.getD blk.toNat ⟨0,0,0,0,0,0⟩=b:=by rw [List.getD_eq_getElem?_getD,hb];rfl
 have hcl:∀ x:Blk,x.av.cells=[I x.x0,I x.x1,I x.s0,I x.s1,I x.g0,I x.g1]:=fun _=>rfl
 have hbo:=hs.bs b (List.mem_of_getElem? hb)
 obtain ⟨o1,o2,o3,o4,o5,o6,o7,o8,o9⟩:=hbo
 have hsb:=heats_bd s.ts blk 0 1 hs.ts
 have hsl:(zBb s.ts blk 0 1).length≤1000:=by have:=heats_len s.ts blk 0 1;have:=hs.len;omega
 have hof:=of_warm
 have hbx:b.x 1=b.x1:=rfl
 have hex:exc s.ts blk (b.x 1) k 1 0=(zBb s.ts blk 0 1).sum+b.x1:=rfl
 have lt:=hp.ts.len
 rw [List.length_map] at lt
 have hs1:=hp.bs.scal
 have hs2:=hp.ts.scal
 have hq:=ex_loop hL hp.ts hs.ts hs.len blk 0 k 1 (.iface 177 (.agg [])) (fun _=>rfl) hof
 have hadd:=fun (o:AO) (A:Heap)=>app_fact H H rfl o A (zBb s.ts blk 0 1) b.x1 hsl
 have hsum:=fun (o:AO) (A:Heap)=>sum_fact H H rfl o A (zBb s.ts blk 0 1) b.x1 hsl hsb (by omega)
 have hof':=fun (bb:Nat) G=>hof bb G b.x0 b.x1 (by omega) (by omega) (by omega)
 simp only [show ¬ (1:Int)=0 by decide,if_false] at hof'
 rw [hex]
 refine (zA1 fn69 rfl (by simp [Tryz.f69])).trans ?_
 simp -implicitDefEqProofs (maxSteps:=1000000) (disch:=first|rfl|omega|assumption) only [go_sem,ltT,ltF,leT,zA6 hL,hp.box]
 rw [zAg];rotate_left;kernel_rfl
 simp -implicitDefEqProofs (maxSteps:=1000000) (disch:=first|rfl|omega|assumption) only [go_sem,ltT,ltF,leT,zA6 hL,zA6 hM,hp.box,hp.mp,hlk]
 rw [zAg];rotate_left;kernel_rfl
 simp -implicitDefEqProofs (maxSteps:=1000000) (disch:=first|rfl|omega|assumption) only [go_sem,ltT,ltF,leT,zA6 hL,zA6 hM,hp.box,hp.mp,hlk,se_ends,lt,hs1,hs2]
 refine hq _ _ (fun E g0 g3 g7 g8=>?_) s.ts.length 0 (by omega) [] [] (by simp [zBb]) _ (by rfl) (by rfl) (by rfl) (by rfl) (by rfl) (by rfl) (by rfl)
 simp -implicitDefEqProofs (maxSteps:=1000000) (disch:=first|rfl|omega|assumption) only [go_sem,g0,g3,g7,g8,ltT,ltF,leT,hk',hs1,hs2]
 rw [zAg];rotate_left;kernel_rfl
 simp -implicitDefEqProofs (maxSteps:=1000000) (disch:=first|rfl|omega|assumption) only [go_sem,g0,g3,g7,g8,ltT,ltF,leT,hk',hs1,hs2,zA6 hL,zA6 hM,hp.box,hp.mp,a1,a2,a3,a4,a5,hbd,hcl,hof',se_cold,hadd,hsum]
 rw [zAg];rotate_left;kernel_rfl
 simp -implicitDefEqProofs (maxSteps:=1000000) (disch:=first|rfl|omega|assumption) only [go_sem,g0,g3,g7,g8,ltT,ltF,leT,hk',hs1,hs2,zA6 hL,zA6 hM,hp.box,hp.mp,set_lt hM]
 done
theorem es0 {L M:Nat} {vb vt:AV} {s:Stl} (hs:s.Wf) {blk k:Int} {b:Blk} (h0:0≤blk) (hb:s.bs[blk.toNat]? = some b) (hk:1≤k∧k≤100) {n:Nat} (hn:n≤100) {es es':List (AV×AV)} (hp:PlOk H L M vb vt s es) (hlk:zAj (.agg [I blk,I ((n+1:Nat):Int),I k,I 0]) es=none)
  (ih:zA8 cfg0 zA0 false 69 [.ptr L 0,.agg [I blk,I n,I k,I 0]] (H++[.box (.agg [I blk,I ((n+1:Nat):Int),I k,I 0]),.grow 1 ((zBb s.ts blk ((n+1:Nat):Int) 0).map I),.box (.agg [I blk,I n,I k,I 0])]) none =
   some ⟨.ret (I (exc s.ts blk (b.x 0) k 0 n)),H.set M (.map 122 es')++[.box (.agg [I blk,I ((n+1:Nat):Int),I k,I 0]),.grow 1 ((zBb s.ts blk ((n+1:Nat):Int) 0).map I),.box (.agg [I blk,I n,I k,I 0])],none⟩) :
  zA8 cfg0 zA0 false 69 [.ptr L 0,.agg [I blk,I ((n+1:Nat):Int),I k,I 0]] H none=some ⟨.ret (I (exc s.ts blk (b.x 0) k 0 (n+1))),H.set M (.map 122 (putM (.agg [I blk,I ((n+1:Nat):Int),I k,I 0]) (I (exc s.ts blk (b.x 0) k 0 (n+1))) es')),none⟩:=by
 have hk':True:=trivial
 have hL:=hp.hL
 have hM:=hp.hM
 have hLM:=hp.ne
 have hbt:0≤blk∧blk<s.bs.length:=by
  have:=(List.getElem?_eq_some_iff.1 hb).1
  omega
 obtain ⟨a1,a2,a3,a4,a5⟩:=hp.bs.fF (d:=(⟨0,0,0,0,0,0⟩:Blk))
 have hbd:s.bs.getD blk.toNat ⟨0,0,0,0,0,0⟩=b:=by rw [List.getD_eq_getElem?_getD,hb];rfl
 have hcl:∀ x:Blk,x.av.cells=[I x.x0,I x.x1,I x.s0,I x.s1,I x.g0,I x.g1]:=fun _=>rfl
 have hbo:=hs.bs b (List.mem_of_getElem? hb)
 obtain ⟨o1,o2,o3,o4,o5,o6,o7,o8,o9⟩:=hbo
 have hbb : -100≤b.x 0∧b.x 0≤100:=by simp only [Blk.x];constructor<;>split<;>omega
 have hx:=exc_bd (blk:=blk) (e:=0) hs.ts hs.len hbb hk.1 n
 have hff:=fun G=>se_falls (exc s.ts blk (b.x 0) k 0 n) k G (by omega) (by omega) hk.1 (by omega)
 have hfb : -1000000≤zAm (exc s.ts blk (b.x 0) k 0 n) k∧zAm (exc s.ts blk (b.x 0) k 0 n) k≤1000000:=by
  obtain ⟨q1,q2⟩:=fallsZ_bd (x:=exc s.ts blk (b.x 0) k 0 n) hk.1
  rcases Int.le_total 0 (exc s.ts blk (b.x 0) k 0 n) with h4 | h4
  ·have:=q1 h4;omega
  ·have:=q2 h4;omega
 have hpos:(0:Int)<((n+1:Nat):Int):=by omega
 have hm1:IntKind.i64.wrap (((n+1:Nat):Int)-1)=(n:Int):=by rw [w64 (by omega) (by omega)];omega
 have hex:exc s.ts blk (b.x 0) k 0 (n+1)=(zBb s.ts blk ((n+1:Nat):Int) 0).sum+zAm (exc s.ts blk (b.x 0) k 0 n) k:=rfl
 rw [hex]
 clear hex
 generalize hmm:((n+1:Nat):Int)=m at *
 have hsb:=heats_bd s.ts blk m 0 hs.ts
 have hsl:(zBb s.ts blk m 0).length≤1000:=by have:=heats_len s.ts blk m 0;have:=hs.len;omega
 have hof:=of_cold
 have lt:=hp.ts.len
 rw [List.length_map] at lt
 have hs1:=hp.bs.scal
 have hs2:=hp.ts.scal
 have hq:=ex_loop hL hp.ts hs.ts hs.len blk m k 0 (.iface 175 (.agg [])) (fun _=>rfl) hof
 have hof':=fun (bb:Nat) G=>hof bb G b.x0 b.x1 (by omega) (by omega) (by omega)
 simp only [if_true] at hof'
 have hff':=hff
 generalize zAm (exc s.ts blk (b.x 0) k 0 n) k=y at *
 obtain ⟨H1,hH1⟩:∃ H1,H.set M (.map 122 es')=H1:=⟨_,rfl⟩
 have hl1:H1.length=H.length:=by rw [← hH1,List.length_set]
 have hadd:=fun (o:AO) (A:Heap)=>app_fact H1 H hl1 o A (zBb s.ts blk m 0) y hsl
 have hsum:=fun (o:AO) (A:Heap)=>sum_fact H1 H hl1 o A (zBb s.ts blk m 0) y hsl hsb (by omega)
 have hgL:H1[L]? = some (.box (.agg [vb,I s.near,I s.last,vt,.map M])):=by rw [← hH1,List.getElem?_set_ne hLM];exact hp.box
 have hgM:H1[M]? = some (.map 122 es'):=by rw [← hH1];exact List.getElem?_set_self hM
 have hL':L<H1.length:=by omega
 have hM':M<H1.length:=by omega
 have hset:∀ o,H.set M o=H1.set M o:=fun o=>by rw [← hH1,List.set_set]
 rw [hH1] at ih
 rw [hset]
 have y1:∀ (A:Heap) (i:Nat),(H1++A)[H.length+i]? = A[i]? := fun A i=>by rw [← hl1];exact zAe _
 have y2:∀ (A:Heap),(H1++A)[H.length]? = A[0]? := fun A=>by rw [← hl1];exact get_at
 have y3:=fun o A=>take_setL hl1 M o A
 refine (zA1 fn69 rfl (by simp [Tryz.f69])).trans ?_
 simp -implicitDefEqProofs (maxSteps:=1000000) (disch:=first|rfl|omega|assumption) only [go_sem,ltT,ltF,leT,zA6 hL,hp.box]
 rw [zAg];rotate_left;kernel_rfl
 simp -implicitDefEqProofs (maxSteps:=1000000) (disch:=first|rfl|omega|assumption) only [go_sem,ltT,ltF,leT,zA6 hL,zA6 hM,hp.box,hp.mp,hlk]
 rw [zAg];rotate_left;kernel_rfl
 simp -implicitDefEqProofs (maxSteps:=1000000) (disch:=first|rfl|omega|assumption) only [go_sem,ltT,ltF,leT,zA6 hL,zA6 hM,hp.box,hp.mp,hlk,se_ends,lt,hs1,hs2]
 refine hq _ _ (fun E g0 g3 g7 g8=>?_) s.ts.length 0 (by omega) [] [] (by simp [zBb]) _ (by rfl) (by rfl) (by rfl) (by rfl) (by rfl) (by rfl) (by rfl)
 simp -implicitDefEqProofs (maxSteps:=1000000) (disch:=first|rfl|omega|assumption) only [go_sem,g0,g3,g7,g8,ltT,ltF,leT,hk',hs1,hs2]
 rw [zAg];rotate_left;kernel_rfl
 simp -implicitDefEqProofs (maxSteps:=1000000) (disch:=first|rfl|omega|assumption) only [go_sem,g0,g3,g7,g8,ltT,ltF,leT,hk',hs1,hs2,zA6 hL,zA6 hM,hp.box,hp.mp,a1,a2,a3,a4,a5,hbd,hcl,hof',se_cold,hpos,hm1]
 rw [zAg];rotate_left;kernel_rfl
 simp -implicitDefEqProofs (maxSteps:=1000000) (disch:=first|rfl|omega|assumption) only [go_sem,g0,g3,g7,g8,ltT,ltF,leT,hk',hs1,hs2,zA6 hL,ih,hff',hadd,hsum,y1,y2]
 rw [zAg];rotate_left;kernel_rfl
 simp -implicitDefEqProofs (maxSteps:=1000000) (disch:=first|rfl|omega|assumption) only [go_sem,g0,g3,g7,g8,ltT,ltF,leT,hk',hs1,hs2,zA6 hL',zA6 hM',hgL,hgM,set_lt hM',y1,y2,y3]
 done
theorem es1 {L M:Nat} {vb vt:AV} {s:Stl} (hs:s.Wf) {blk k:Int} {b:Blk} (h0:0≤blk) (hb:s.bs[blk.toNat]? = some b) (hk:1≤k∧k≤100) {n:Nat} (hn:n≤100) {es es':List (AV×AV)} (hp:PlOk H L M vb vt s es) (hlk:zAj (.agg [I blk,I ((n+1:Nat):Int),I k,I 1]) es=none)
  (ih:zA8 cfg0 zA0 false 69 [.ptr L 0,.agg [I blk,I n,I k,I 1]] (H++[.box (.agg [I blk,I ((n+1:Nat):Int),I k,I 1]),.grow 1 ((zBb s.ts blk ((n+1:Nat):Int) 1).map I),.box (.agg [I blk,I n,I k,I 1])]) none =
   some ⟨.ret (I (exc s.ts blk (b.x 1) k 1 n)),H.set M (.map 122 es')++[.box (.agg [I blk,I ((n+1:Nat):Int),I k,I 1]),.grow 1 ((zBb s.ts blk ((n+1:Nat):Int) 1).map I),.box (.agg [I blk,I n,I k,I 1])],none⟩) :
  zA8 cfg0 zA0 false 69 [.ptr L 0,.agg [I blk,I ((n+1:Nat):Int),I k,I 1]] H none=some ⟨.ret (I (exc s.ts blk (b.x 1) k 1 (n+1))),H.set M (.map 122 (putM (.agg [I blk,I ((n+1:Nat):Int),I k,I 1]) (I (exc s.ts blk (b.x 1) k 1 (n+1))) es')),none⟩:=by
 have hk':True:=trivial
 have hL:=hp.hL
 have hM:=hp.hM
 have hLM:=hp.ne
 have hbt:0≤blk∧blk<s.bs.length:=by
  have:=(List.getElem?_eq_some_iff.1 hb).1
  omega
 obtain ⟨a1,a2,a3,a4,a5⟩:=hp.bs.fF (d:=(⟨0,0,0,0,0,0⟩:Blk))
 have hbd:s.bs.getD blk.toNat ⟨0,0,0,0,0,0⟩=b:=by rw [List.getD_eq_getElem?_getD,hb];rfl
 have hcl:∀ x:Blk,x.av.cells=[I x.x0,I x.x1,I x.s0,I x.s1,I x.g0,I x.g1]:=fun _=>rfl
 have hbo:=hs.bs b (List.mem_of_getElem? hb)
 obtain ⟨o1,o2,o3,o4,o5,o6,o7,o8,o9⟩:=hbo
 have hbb : -100≤b.x 1∧b.x 1≤100:=by simp only [Blk.x];constructor<;>split<;>omega
 have hx:=exc_bd (blk:=blk) (e:=1) hs.ts hs.len hbb hk.1 n
 have hff:=fun G=>se_falls (exc s.ts blk (b.x 1) k 1 n) k G (by omega) (by omega) hk.1 (by omega)
 have hfb : -1000000≤zAm (exc s.ts blk (b.x 1) k 1 n) k∧zAm (exc s.ts blk (b.x 1) k 1 n) k≤1000000:=by
  obtain ⟨q1,q2⟩:=fallsZ_bd (x:=exc s.ts blk (b.x 1) k 1 n) hk.1
  rcases Int.le_total 0 (exc s.ts blk (b.x 1) k 1 n) with h4 | h4
  ·have:=q1 h4;omega
  ·have:=q2 h4;omega
 have hpos:(0:Int)<((n+1:Nat):Int):=by omega
 have hm1:IntKind.i64.wrap (((n+1:Nat):Int)-1)=(n:Int):=by rw [w64 (by omega) (by omega)];omega
 have hex:exc s.ts blk (b.x 1) k 1 (n+1)=(zBb s.ts blk ((n+1:Nat):Int) 1).sum+zAm (exc s.ts blk (b.x 1) k 1 n) k:=rfl
 rw [hex]
 clear hex
 generalize hmm:((n+1:Nat):Int)=m at *
 have hsb:=heats_bd s.ts blk m 1 hs.ts
 have hsl:(zBb s.ts blk m 1).length≤1000:=by have:=heats_len s.ts blk m 1;have:=hs.len;omega
 have hof:=of_warm
 have lt:=hp.ts.len
 rw [List.length_map] at lt
 have hs1:=hp.bs.scal
 have hs2:=hp.ts.scal
 have hq:=ex_loop hL hp.ts hs.ts hs.len blk m k 1 (.iface 177 (.agg [])) (fun _=>rfl) hof
 have hof':=fun (bb:Nat) G=>hof bb G b.x0 b.x1 (by omega) (by omega) (by omega)
 simp only [show ¬ (1:Int)=0 by decide,if_false] at hof'
 have hff':=hff
 generalize zAm (exc s.ts blk (b.x 1) k 1 n) k=y at *
 obtain ⟨H1,hH1⟩:∃ H1,H.set M (.map 122 es')=H1:=⟨_,rfl⟩
 have hl1:H1.length=H.length:=by rw [← hH1,List.length_set]
 have hadd:=fun (o:AO) (A:Heap)=>app_fact H1 H hl1 o A (zBb s.ts blk m 1) y hsl
 have hsum:=fun (o:AO) (A:Heap)=>sum_fact H1 H hl1 o A (zBb s.ts blk m 1) y hsl hsb (by omega)
 have hgL:H1[L]? = some (.box (.agg [vb,I s.near,I s.last,vt,.map M])):=by rw [← hH1,List.getElem?_set_ne hLM];exact hp.box
 have hgM:H1[M]? = some (.map 122 es'):=by rw [← hH1];exact List.getElem?_set_self hM
 have hL':L<H1.length:=by omega
 have hM':M<H1.length:=by omega
 have hset:∀ o,H.set M o=H1.set M o:=fun o=>by rw [← hH1,List.set_set]
 rw [hH1] at ih
 rw [hset]
 have y1:∀ (A:Heap) (i:Nat),(H1++A)[H.length+i]? = A[i]? := fun A i=>by rw [← hl1];exact zAe _
 have y2:∀ (A:Heap),(H1++A)[H.length]? = A[0]? := fun A=>by rw [← hl1];exact get_at
 have y3:=fun o A=>take_setL hl1 M o A
 refine (zA1 fn69 rfl (by simp [Tryz.f69])).trans ?_
 simp -implicitDefEqProofs (maxSteps:=1000000) (disch:=first|rfl|omega|assumption) only [go_sem,ltT,ltF,leT,zA6 hL,hp.box]
 rw [zAg];rotate_left;kernel_rfl
 simp -implicitDefEqProofs (maxSteps:=1000000) (disch:=first|rfl|omega|assumption) only [go_sem,ltT,ltF,leT,zA6 hL,zA6 hM,hp.box,hp.mp,hlk]
 rw [zAg];rotate_left;kernel_rfl
 simp -implicitDefEqProofs (maxSteps:=1000000) (disch:=first|rfl|omega|assumption) only [go_sem,ltT,ltF,leT,zA6 hL,zA6 hM,hp.box,hp.mp,hlk,se_ends,lt,hs1,hs2]
 refine hq _ _ (fun E g0 g3 g7 g8=>?_) s.ts.length 0 (by omega) [] [] (by simp [zBb]) _ (by rfl) (by rfl) (by rfl) (by rfl) (by rfl) (by rfl) (by rfl)
 simp -implicitDefEqProofs (maxSteps:=1000000) (disch:=first|rfl|omega|assumption) only [go_sem,g0,g3,g7,g8,ltT,ltF,leT,hk',hs1,hs2]
 rw [zAg];rotate_left;kernel_rfl
 simp -implicitDefEqProofs (maxSteps:=1000000) (disch:=first|rfl|omega|assumption) only [go_sem,g0,g3,g7,g8,ltT,ltF,leT,hk',hs1,hs2,zA6 hL,zA6 hM,hp.box,hp.mp,a1,a2,a3,a4,a5,hbd,hcl,hof',se_cold,hpos,hm1]
 rw [zAg];rotate_left;kernel_rfl
 simp -implicitDefEqProofs (maxSteps:=1000000) (disch:=first|rfl|omega|assumption) only [go_sem,g0,g3,g7,g8,ltT,ltF,leT,hk',hs1,hs2,zA6 hL,ih,hff',hadd,hsum,y1,y2]
 rw [zAg];rotate_left;kernel_rfl
 simp -implicitDefEqProofs (maxSteps:=1000000) (disch:=first|rfl|omega|assumption) only [go_sem,g0,g3,g7,g8,ltT,ltF,leT,hk',hs1,hs2,zA6 hL',zA6 hM',hgL,hgM,set_lt hM',y1,y2,y3]
 done
def memE (ts:List Tch) (blk b0 k e:Int):Nat→List (AV×AV)→List (AV×AV)
 | 0,es=>if (zAj (.agg [I blk,I ((0:Nat):Int),I k,I e]) es).isSome then es else putM (.agg [I blk,I ((0:Nat):Int),I k,I e]) (I (exc ts blk b0 k e 0)) es
 | n+1,es=>if (zAj (.agg [I blk,I ((n+1:Nat):Int),I k,I e]) es).isSome then es else putM (.agg [I blk,I ((n+1:Nat):Int),I k,I e]) (I (exc ts blk b0 k e (n+1))) (memE ts blk b0 k e n es)
theorem memE_good {s:Stl} {blk k e:Int} {b:Blk} (h0:0≤blk) (hb:s.bs[blk.toNat]? = some b) {es:List (AV×AV)} (h:Good s es):∀ n,Good s (memE s.ts blk (b.x e) k e n es)
 | 0=>by
  simp only [memE]
  split
  ·exact h
  ·exact h.put (n:=0) h0 hb
 | n+1=>by
  simp only [memE]
  split
  ·exact h
  ·exact (memE_good h0 hb h n).put (n:=n+1) h0 hb
theorem se_excess {L M:Nat} {vb vt:AV} {s:Stl} (hs:s.Wf) {blk k e:Int} {b:Blk} (h0:0≤blk) (hb:s.bs[blk.toNat]? = some b) (hk:1≤k∧k≤100) (he:e=0∨e=1):∀ (n:Nat) (H:Heap) (es:List (AV×AV)),n≤100→PlOk H L M vb vt s es→Good s es →
  zA8 cfg0 zA0 false 69 [.ptr L 0,.agg [I blk,I n,I k,I e]] H none=some ⟨.ret (I (exc s.ts blk (b.x e) k e n)),H.set M (.map 122 (memE s.ts blk (b.x e) k e n es)),none⟩:=by
 have hit:∀ (n:Nat) (H:Heap) (es:List (AV×AV)) (v:AV),PlOk H L M vb vt s es→Good s es→zAj (.agg [I blk,I n,I k,I e]) es=some v →
   zA8 cfg0 zA0 false 69 [.ptr L 0,.agg [I blk,I n,I k,I e]] H none=some ⟨.ret (I (exc s.ts blk (b.x e) k e n)),H.set M (.map 122 es),none⟩:=by
  intro n H es v hp hg hlk
  have hk':True:=trivial
  have hL:=hp.hL
  have hM:=hp.hM
  have hv:=hg.2 blk n k e b h0 hb v hlk
  subst hv
  rw [set_self hp.mp]
  have hs1:=hp.bs.scal
  have hs2:=hp.ts.scal
  refine (zA1 fn69 rfl (by simp [Tryz.f69])).trans ?_
  simp -implicitDefEqProofs (maxSteps:=1000000) (disch:=first|rfl|omega|assumption) only [go_sem,ltT,ltF,leT,zA6 hL,hp.box,hs1,hs2]
  rw [zAg];rotate_left;kernel_rfl
  simp -implicitDefEqProofs (maxSteps:=1000000) (disch:=first|rfl|omega|assumption) only [go_sem,ltT,ltF,leT,zA6 hL,zA6 hM,hp.box,hp.mp,hlk,hs1,hs2]
  done
 intro n
 induction n with
 | zero =>
  intro H es hn hp hg
  simp only [memE]
  cases hlk:zAj (.agg [I blk,I ((0:Nat):Int),I k,I e]) es with
  | some v=>exact hit 0 H es v hp hg hlk
  | none =>
   rcases he with rfl | rfl
   ·exact ez0 hs h0 hb hp hlk
   ·exact ez1 hs h0 hb hp hlk
 | succ n ih =>
  intro H es hn hp hg
  simp only [memE]
  cases hlk:zAj (.agg [I blk,I ((n+1:Nat):Int),I k,I e]) es with
  | some v=>exact hit (n+1) H es v hp hg hlk
  | none =>
   have hL:=hp.hL
   have hM:=hp.hM
   have h2:=ih (H++[.box (.agg [I blk,I ((n+1:Nat):Int),I k,I e]),.grow 1 ((zBb s.ts blk ((n+1:Nat):Int) e).map I),.box (.agg [I blk,I n,I k,I e])]) es (by omega) (hp.app _) hg
   rw [set_lt hM] at h2
   rcases he with rfl | rfl
   ·exact es0 hs h0 hb hk (by omega) hp hlk h2
   ·exact es1 hs h0 hb hk (by omega) hp hlk h2
def loS (f:Nat→Int):Nat→Int
 | 0=>0
 | j+1=>if j=0 then f 0 else if f j<loS f j then f j else loS f j
def hiS (f:Nat→Int):Nat→Int
 | 0=>0
 | j+1=>if j=0 then f 0 else if hiS f j<f j then f j else hiS f j
noncomputable def hlE (h:Nat) (v0:AV):Env:=[(5,v0),(3,.ptr (h+1) 0),(2,.ptr h 0),(0,v0)]
noncomputable def hlH (h:Nat) (v0:AV) (lo hi:Int) (f:Bool):Heap:=[.box (.agg [I lo,I hi]),.box (.bool f),.dfr,.loop (zAq Tryz.f41 41 0 (hlE h v0) (h+2))]
theorem hull_step {bb:Nat} (G E:Heap) (h:Nat) (hh:G.length=h) (lo hi x y:Int) (f:Bool) (v0:AV) :
  zAw cfg0 zA0 bb false (.yield (h+3)) [.agg [I x,I y]] [] (G++(hlH h v0 lo hi f++E)) none =
  some ⟨.ret (.bool true),G++(hlH h v0 (if f then (if x<lo then x else lo) else x) (if f then (if hi<y then y else hi) else y) true++E),none⟩:=by
 subst hh
 have hk':True:=trivial
 simp only [hlH,hlE]
 cases f
 ·simp only [Bool.false_eq_true,if_false]
  simp -implicitDefEqProofs (maxSteps:=1000000) (disch:=first|rfl|omega|assumption) only [go_sem,ltT,ltF,leT,zAq,zAo,List.nil_append,List.append_nil,List.cons_append,List.getElem?_cons_zero,List.getElem?_cons_succ,Tryz.f41]
  done
 ·simp only [if_true]
  obtain ⟨z1,hz1⟩:∃ z,(if x<lo then x else lo)=z:=⟨_,rfl⟩
  obtain ⟨z2,hz2⟩:∃ z,(if hi<y then y else hi)=z:=⟨_,rfl⟩
  rw [hz1,hz2]
  simp -implicitDefEqProofs (maxSteps:=1000000) (disch:=first|rfl|omega|assumption) only [go_sem,ltT,ltF,leT,zAq,zAo,List.nil_append,List.append_nil,List.cons_append,List.getElem?_cons_zero,List.getElem?_cons_succ,Tryz.f41,hz1,hz2]
  done
def memT (s:Stl) (blk:Int) (b:Blk) (m:Nat) (es:List (AV×AV)):Nat→List (AV×AV)
 | 0=>es
 | j+1=>memE s.ts blk (b.x 1) (b.s0+j) 1 m (memE s.ts blk (b.x 0) (b.s0+j) 0 m (memT s blk b m es j))
theorem memT_good {s:Stl} {blk:Int} {b:Blk} (h0:0≤blk) (hb:s.bs[blk.toNat]? = some b) (m:Nat) {es:List (AV×AV)} (h:Good s es):∀ j,Good s (memT s blk b m es j)
 | 0=>h
 | j+1=>memE_good h0 hb (memE_good h0 hb (memT_good h0 hb m h j) m) m
structure ItOk (H:Heap) (L M:Nat) (vb vt:AV) (s:Stl) (es:List (AV×AV)) (A:Nat) (blk:Int) (m:Nat):Prop where
 a:H[A]? = some (.box (.ptr L 0))
 b:H[A+1]? = some (.box (I blk))
 c:H[A+2]? = some (.box (I m))
 pl:PlOk H L M vb vt s es
theorem ItOk.set {L M:Nat} {vb vt:AV} {s:Stl} {es:List (AV×AV)} {A m:Nat} {blk:Int} (h:ItOk H L M vb vt s es A blk m) (es':List (AV×AV)):ItOk (H.set M (.map 122 es')) L M vb vt s es' A blk m:=by
 have key:∀ {i:Nat} {v:AV},H[i]? = some (.box v)→(H.set M (.map 122 es'))[i]? = some (.box v):=by
  intro i v hv
  rw [List.getElem?_set_ne]
  ·exact hv
  ·rintro rfl
   have:=h.pl.mp
   rw [this] at hv;cases hv
 exact ⟨key h.a,key h.b,key h.c,h.pl.set es'⟩
theorem ItOk.app {L M:Nat} {vb vt:AV} {s:Stl} {es:List (AV×AV)} {A m:Nat} {blk:Int} (h:ItOk H L M vb vt s es A blk m) (G:Heap):ItOk (H++G) L M vb vt s es A blk m:=by
 have key:∀ {i:Nat} {v:AV},H[i]? = some (.box v)→(H++G)[i]? = some (.box v):=fun {i v} hv=>by
  rw [List.getElem?_append_left (List.getElem?_eq_some_iff.1 hv).1];exact hv
 exact ⟨key h.a,key h.b,key h.c,h.pl.app G⟩
def exA (s:Stl) (blk:Int) (b:Blk) (m j:Nat):Int:=exc s.ts blk (b.x 0) (b.s0+j) 0 m
def exB (s:Stl) (blk:Int) (b:Blk) (m j:Nat):Int:=exc s.ts blk (b.x 1) (b.s0+j) 1 m
def Blk.n (b:Blk):Nat:=(b.s1+1-b.s0).toNat
theorem Blk.Ok.hn {b:Blk} (h:b.Ok):b.s0+(b.n:Int)=b.s1+1:=by
 have:=h.a5
 simp only [Blk.n];omega
theorem lo_step (f:Nat→Int) (j:Nat):(if decide (0<j)=true then (if f j<loS f j then f j else loS f j) else f j)=loS f (j+1):=by
 simp only [loS]
 by_cases h:j=0
 ·subst h;simp
 ·simp [h,show 0<j by omega]
theorem hi_step (f:Nat→Int) (j:Nat):(if decide (0<j)=true then (if hiS f j<f j then f j else hiS f j) else f j)=hiS f (j+1):=by
 simp only [hiS]
 by_cases h:j=0
 ·subst h;simp
 ·simp [h,show 0<j by omega]
theorem sp_loop {L M A:Nat} {vb vt:AV} {s:Stl} (hs:s.Wf) {blk:Int} {b:Blk} (h0:0≤blk) (hb:s.bs[blk.toNat]? = some b) {m:Nat} (hm:m≤60) {es:List (AV×AV)} (hg:Good s es) (hi:ItOk H L M vb vt s es A blk m) (v0:AV) :
  ∀ (q j:Nat),j+q=b.n→∀ (G:Heap),∀ E:Env,E.get 0=.func (.yield (H.length+3)) [] []→E.get 1=.ptr A 0→E.get 2=.ptr (A+1) 0→E.get 3=.ptr (A+2) 0→E.get 5=I (b.s0+j) →
  Option.map (zAi (H.length+4)) (zAh cfg0 zA0 ⟨68,none,false,(H.length+4)⟩ (zA7 Tryz.f68 1) ⟨E,[],H.set M (.map 122 (memT s blk b m es j))++(hlH H.length v0 (loS (exA s blk b m) j) (hiS (exB s blk b m) j) (decide (0<j))++G),none⟩)=some ⟨.ret (.tup []),H.set M (.map 122 (memT s blk b m es b.n))++hlH H.length v0 (loS (exA s blk b m) b.n) (hiS (exB s blk b m) b.n) (decide (0<b.n)),none⟩:=by
 intro q
 have hbo:=hs.bs b (List.mem_of_getElem? hb)
 obtain ⟨o1,o2,o3,o4,o5,o6,o7,o8,o9⟩:=id hbo
 have hn:=hbo.hn
 have hbt:0≤blk∧blk<s.bs.length:=by
  have:=(List.getElem?_eq_some_iff.1 hb).1
  omega
 have hbd:s.bs.getD blk.toNat ⟨0,0,0,0,0,0⟩=b:=by rw [List.getD_eq_getElem?_getD,hb];rfl
 have hcl:∀ x:Blk,x.av.cells=[I x.x0,I x.x1,I x.s0,I x.s1,I x.g0,I x.g1]:=fun _=>rfl
 have hM:=hi.pl.hM
 have hA:=(List.getElem?_eq_some_iff.1 hi.a).1
 have hB:=(List.getElem?_eq_some_iff.1 hi.b).1
 have hC:=(List.getElem?_eq_some_iff.1 hi.c).1
 induction q with
 | zero =>
  intro j hj G E g0 g1 g2 g3 g5
  have hk':¬ (j:Int)<((b.n:Nat):Int):=by omega
  have ej:j=b.n:=by omega
  subst ej
  simp only [zAb,zA4,zA7,zAa,zA3,↓reduceIte,Option.some.injEq,Nat.reduceEqDiff,reduceCtorEq,Tryz.f68]
  rw [zA2]
  obtain ⟨W,hW⟩:∃ W,hlH H.length v0 (loS (exA s blk b m) b.n) (hiS (exB s blk b m) b.n) (decide (0<b.n))=W:=⟨_,rfl⟩
  have hWl:W.length=4:=by rw [← hW];rfl
  rw [hW]
  have hit:=(hi.set (memT s blk b m es b.n)).app W
  have hlen:(H.set M (.map 122 (memT s blk b m es b.n))++W).length=H.length+4:=by rw [List.length_append,List.length_set,hWl]
  have htk:(H.set M (.map 122 (memT s blk b m es b.n))++(W++G)).take (H.length+4)=H.set M (.map 122 (memT s blk b m es b.n))++W:=by
   rw [← List.append_assoc]
   exact List.take_left' hlen
  generalize H.set M (.map 122 (memT s blk b m es b.n))++(W++G)=K0 at *
  generalize H.set M (.map 122 (memT s blk b m es b.n))++W=K at *
  have hdr:K.drop (H.length+4)=[]:=List.drop_eq_nil_of_le (by omega)
  have htk2:K.take (H.length+4)=K:=List.take_of_length_le (by omega)
  obtain ⟨a1,a2,a3,a4,a5⟩:=hit.pl.bs.fF (d:=(⟨0,0,0,0,0,0⟩:Blk))
  have hs1:=hit.pl.bs.scal
  have hs2:=hit.pl.ts.scal
  have hz:¬ b.s0+(b.n:Int)≤b.s1:=by omega
  have hA4:A<H.length+4:=by omega
  have hB4:A+1<H.length+4:=by omega
  have hC4:A+2<H.length+4:=by omega
  simp -implicitDefEqProofs (maxSteps:=1000000) (disch:=first|rfl|omega|assumption) only [go_sem,g0,g1,g2,g3,g5,ltT,ltF,leT,hk',hs1,hs2,hA4,hB4,hC4,hlen,htk,htk2,hdr]
  rw [zAg];rotate_left;kernel_rfl
  simp -implicitDefEqProofs (maxSteps:=1000000) (disch:=first|rfl|omega|assumption) only [go_sem,g0,g1,g2,g3,g5,ltT,ltF,leT,hk',hs1,hs2,hit.a,hit.b,hit.c,hit.pl.box,a1,a2,a3,a4,a5,hbd,hcl,hz,htk2,hlen]
  done
 | succ q ih =>
  intro j hj G E g0 g1 g2 g3 g5
  have hk':(j:Int)<((b.n:Nat):Int):=by omega
  have hk2:j<b.n:=by omega
  have hz:b.s0+(j:Int)≤b.s1:=by omega
  have hA4:A<H.length+4:=by omega
  have hB4:A+1<H.length+4:=by omega
  have hC4:A+2<H.length+4:=by omega
  have hgj:=memT_good h0 hb m hg j
  have key0:=fun G=>ih (j+1) (by omega) G
  simp only [memT] at key0
  generalize memT s blk b m es j=ej at *
  have e0:=fun (K:Heap) (hp:PlOk K L M vb vt s ej)=>se_excess hs h0 hb (k:=b.s0+j) (e:=0) (by omega) (.inl rfl) m K ej (by omega) hp hgj
  have hg1:=memE_good h0 hb hgj (k:=b.s0+j) (e:=0) m
  generalize memE s.ts blk (b.x 0) (b.s0+j) 0 m ej=e1 at *
  have f0:=fun (K:Heap) (hp:PlOk K L M vb vt s e1)=>se_excess hs h0 hb (k:=b.s0+j) (e:=1) (by omega) (.inr rfl) m K e1 (by omega) hp hg1
  generalize memE s.ts blk (b.x 1) (b.s0+j) 1 m e1=e2 at *
  have hst:∀ bb:Nat,_:=fun bb=>hull_step (bb:=bb) (H.set M (.map 122 e2)) [.box (.agg [I (exA s blk b m j),I (exB s blk b m j)])] H.length (by rw [List.length_set]) (loS (exA s blk b m) j) (hiS (exB s blk b m) j) (exA s blk b m j) (exB s blk b m j) (decide (0<j)) v0
  simp only [lo_step,hi_step] at hst
  have hxa:exc s.ts blk (b.x 0) (b.s0+j) 0 m=exA s blk b m j:=rfl
  have hxb:exc s.ts blk (b.x 1) (b.s0+j) 1 m=exB s blk b m j:=rfl
  simp only [hxa] at e0
  simp only [hxb] at f0
  have hd1:decide (0<j+1)=true:=by simp
  rw [hd1] at key0
  generalize exA s blk b m j=xa at *
  generalize exB s blk b m j=xb at *
  obtain ⟨W,hW⟩:∃ W,hlH H.length v0 (loS (exA s blk b m) j) (hiS (exB s blk b m) j) (decide (0<j))=W:=⟨_,rfl⟩
  have hWl:W.length=4:=by rw [← hW];rfl
  rw [hW] at hst ⊢
  generalize hlH H.length v0 (loS (exA s blk b m) (j+1)) (hiS (exB s blk b m) (j+1)) true=W1 at *
  have hit:=(hi.set ej).app W
  have hse:∀ (es':List (AV×AV)) (A:Heap),(H.set M (.map 122 ej)++W).set M (.map 122 es')++A=H.set M (.map 122 es')++(W++A):=fun es' A=>by
   rw [set_lt (by rw [List.length_set];exact hM),List.set_set,List.append_assoc]
  have hlen:(H.set M (.map 122 ej)++W).length=H.length+4:=by rw [List.length_append,List.length_set,hWl]
  have htk:(H.set M (.map 122 ej)++(W++G)).take (H.length+4)=H.set M (.map 122 ej)++W:=by
   rw [← List.append_assoc]
   exact List.take_left' hlen
  rw [← hse] at hst
  generalize H.set M (.map 122 ej)++(W++G)=K0 at *
  obtain ⟨K,hK⟩:∃ K,H.set M (.map 122 ej)++W=K:=⟨_,rfl⟩
  rw [hK] at hit hlen hst htk
  have hdr:K.drop (H.length+4)=[]:=List.drop_eq_nil_of_le (by omega)
  obtain ⟨a1,a2,a3,a4,a5⟩:=hit.pl.bs.fF (d:=(⟨0,0,0,0,0,0⟩:Blk))
  have hs1:=hit.pl.bs.scal
  have hs2:=hit.pl.ts.scal
  have hMK:=hit.pl.hM
  have e0':=e0 (K++[.box (.agg [I 0,I 0])]) (hit.pl.app _)
  rw [set_lt hMK] at e0'
  have f0':=f0 (K.set M (.map 122 e1)++[.box (.agg [I 0,I 0])]) ((hit.pl.set e1).app _)
  rw [set_lt (by rw [List.length_set];exact hMK),List.set_set] at f0'
  have i1:=hit.set e1
  have i2:=hit.set e2
  have AK:=(List.getElem?_eq_some_iff.1 hit.a).1
  have BK:=(List.getElem?_eq_some_iff.1 hit.b).1
  have CK:=(List.getElem?_eq_some_iff.1 hit.c).1
  have A1:∀ o,(K.set M (.map 122 e1)++[o])[A]? = some (.box (.ptr L 0)):=fun o=>(i1.app [o]).a
  have B1:∀ o,(K.set M (.map 122 e1)++[o])[A+1]? = some (.box (I blk)):=fun o=>(i1.app [o]).b
  have C1:∀ o,(K.set M (.map 122 e1)++[o])[A+2]? = some (.box (I m)):=fun o=>(i1.app [o]).c
  have hk2':(K.set M (.map 122 e2)).length=K.length:=List.length_set
  have y1:∀ (A:Heap) (i:Nat),(K.set M (.map 122 e2)++A)[K.length+i]? = A[i]? := fun A i=>by rw [← hk2'];exact zAe _
  have y2:∀ (A:Heap),(K.set M (.map 122 e2)++A)[K.length]? = A[0]? := fun A=>by rw [← hk2'];exact get_at
  have y4:∀ (o o':AO),(K.set M (.map 122 e2)++[o]).set K.length o'=K.set M (.map 122 e2)++[o']:=fun o o'=>by
   rw [← hk2',List.set_append_right _ _ (Nat.le_refl _)];simp
  simp only [zAb,zA4,zA7,zAa,zA3,↓reduceIte,Option.some.injEq,Nat.reduceEqDiff,reduceCtorEq,Tryz.f68]
  rw [zA2]
  simp -implicitDefEqProofs (maxSteps:=1000000) (disch:=first|rfl|omega|assumption) only [go_sem,g0,g1,g2,g3,g5,ltT,ltF,leT,hk',hs1,hs2,hA4,hB4,hC4,hlen,htk,hdr]
  rw [zAg];rotate_left;kernel_rfl
  simp -implicitDefEqProofs (maxSteps:=1000000) (disch:=first|rfl|omega|assumption) only [go_sem,g0,g1,g2,g3,g5,ltT,ltF,leT,hk',hs1,hs2,hit.a,hit.b,hit.c,hit.pl.box,a1,a2,a3,a4,a5,hbd,hcl,hz]
  rw [zAg];rotate_left;kernel_rfl
  simp -implicitDefEqProofs (maxSteps:=1000000) (disch:=first|rfl|omega|assumption) only [go_sem,g0,g1,g2,g3,g5,ltT,ltF,leT,hk',hs1,hs2,hit.a,hit.b,hit.c,zA6 AK,zA6 BK,zA6 CK,A1,B1,C1,e0',f0',y1,y2,y4,hst]
  exact key0 _ _ (by rfl) (by rfl) (by rfl) (by rfl) (congrArg I (by omega))
theorem se_spans1 {L M A:Nat} {vb vt:AV} {s:Stl} (hs:s.Wf) {blk:Int} {b:Blk} (h0:0≤blk) (hb:s.bs[blk.toNat]? = some b) {m:Nat} (hm:m≤60) {es:List (AV×AV)} (hg:Good s es) (hi:ItOk H L M vb vt s es A blk m) (v0:AV) :
  zA8 cfg0 zA0 false 68 [.func (.yield (H.length+3)) [] [],.ptr A 0,.ptr (A+1) 0,.ptr (A+2) 0] (H++hlH H.length v0 0 0 false) none=some ⟨.ret (.tup []),H.set M (.map 122 (memT s blk b m es b.n))++hlH H.length v0 (loS (exA s blk b m) b.n) (hiS (exB s blk b m) b.n) (decide (0<b.n)),none⟩:=by
 have hk':True:=trivial
 have hbo:=hs.bs b (List.mem_of_getElem? hb)
 have hbt:0≤blk∧blk<s.bs.length:=by
  have:=(List.getElem?_eq_some_iff.1 hb).1
  omega
 have hbd:s.bs.getD blk.toNat ⟨0,0,0,0,0,0⟩=b:=by rw [List.getD_eq_getElem?_getD,hb];rfl
 have hcl:∀ x:Blk,x.av.cells=[I x.x0,I x.x1,I x.s0,I x.s1,I x.g0,I x.g1]:=fun _=>rfl
 have key:=sp_loop hs h0 hb hm hg hi v0 b.n 0 (by omega) []
 have e0:loS (exA s blk b m) 0=0:=rfl
 have e1:hiS (exB s blk b m) 0=0:=rfl
 simp only [memT,e0,e1,List.append_nil,Int.natCast_zero,Int.add_zero,show decide (0<0)=false from rfl] at key
 rw [set_self hi.pl.mp] at key
 obtain ⟨W,hW⟩:∃ W,hlH H.length v0 0 0 false=W:=⟨_,rfl⟩
 have hWl:W.length=4:=by rw [← hW];rfl
 rw [hW] at key ⊢
 have hlen:(H++W).length=H.length+4:=by rw [List.length_append,hWl]
 have hit:=hi.app W
 rw [← hlen] at key
 generalize H++W=K at *
 obtain ⟨a1,a2,a3,a4,a5⟩:=hit.pl.bs.fF (d:=(⟨0,0,0,0,0,0⟩:Blk))
 have hs1:=hit.pl.bs.scal
 have hs2:=hit.pl.ts.scal
 refine (zA1 fn68 rfl (by simp [Tryz.f68])).trans ?_
 simp -implicitDefEqProofs (maxSteps:=1000000) (disch:=first|rfl|omega|assumption) only [go_sem,ltT,ltF,leT,hs1,hs2]
 rw [zAg];rotate_left;kernel_rfl
 simp -implicitDefEqProofs (maxSteps:=1000000) (disch:=first|rfl|omega|assumption) only [go_sem,ltT,ltF,leT,hs1,hs2,hit.a,hit.b,hit.c,hit.pl.box,a1,a2,a3,a4,a5,hbd,hcl]
 exact key _ (by rfl) (by rfl) (by rfl) (by rfl) (by rfl)
def warmLo (s:Stl) (blk:Int) (b:Blk) (m:Nat):Int:=loS (exA s blk b m) b.n
def warmHi (s:Stl) (blk:Int) (b:Blk) (m:Nat):Int:=hiS (exB s blk b m) b.n
def settl (s:Stl) (blk:Int) (b:Blk) (m:Nat):Bool:=decide (-s.near≤warmLo s blk b m)&&decide (warmHi s blk b m≤s.near)
theorem se_spans (L:Nat) (blk m:Int) (H:Heap):zA8 cfg0 zA0 false 42 [.ptr L 0,I blk,I m] H none=some ⟨.ret (.func (.func 68) [] [.ptr H.length 0,.ptr (H.length+1) 0,.ptr (H.length+2) 0]),H++[.box (.ptr L 0),.box (I blk),.box (I m)],none⟩:=by
 refine (zA1 fn42 rfl (by simp [Tryz.f42])).trans ?_
 simp -implicitDefEqProofs (maxSteps:=1000000) (disch:=first|rfl|omega|assumption) only [go_sem,ltT,ltF,leT]
 done
theorem se_hull {L M A:Nat} {vb vt:AV} {s:Stl} (hs:s.Wf) {blk:Int} {b:Blk} (h0:0≤blk) (hb:s.bs[blk.toNat]? = some b) {m:Nat} (hm:m≤60) {es:List (AV×AV)} (hg:Good s es) (hi:ItOk H L M vb vt s es A blk m) :
  zA8 cfg0 zA0 false 41 [.func (.func 68) [] [.ptr A 0,.ptr (A+1) 0,.ptr (A+2) 0]] H none=some ⟨.ret (.agg [I (warmLo s blk b m),I (warmHi s blk b m)]),H.set M (.map 122 (memT s blk b m es b.n)),none⟩:=by
 have hk':True:=trivial
 have h1:=se_spans1 hs h0 hb hm hg hi (.func (.func 68) [] [.ptr A 0,.ptr (A+1) 0,.ptr (A+2) 0])
 have hl1:(H.set M (.map 122 (memT s blk b m es b.n))).length=H.length:=List.length_set
 change zA8 cfg0 zA0 false _ _ _ _=some ⟨_,_++hlH _ _ (warmLo s blk b m) (warmHi s blk b m) _,_⟩ at h1
 generalize warmLo s blk b m=lo at *
 generalize warmHi s blk b m=hi' at *
 generalize H.set M (.map 122 (memT s blk b m es b.n))=H1 at *
 simp only [hlH,hlE,zAq,zAo,List.nil_append,List.append_nil,List.cons_append,List.getElem?_cons_zero,List.getElem?_cons_succ,Tryz.f41] at h1
 have y1:∀ (A:Heap) (i:Nat),(H1++A)[H.length+i]? = A[i]? := fun A i=>by rw [← hl1];exact zAe _
 have y2:∀ (A:Heap),(H1++A)[H.length]? = A[0]? := fun A=>by rw [← hl1];exact get_at
 have y3:∀ (A:Heap),(H1++A).take H.length=H1:=fun A=>by rw [← hl1,List.take_left]
 have y4:∀ (A:Heap) (o':AO),(H1++A).set H.length o'=H1++A.set 0 o':=fun A o'=>by
  rw [← hl1,List.set_append_right _ _ (Nat.le_refl _)];simp
 have y5:∀ (A:Heap) (i:Nat) (o':AO),(H1++A).set (H.length+i) o'=H1++A.set i o':=fun A i o'=>by
  rw [← hl1];exact zBs _
 refine (zA1 fn41 rfl (by simp [Tryz.f41])).trans ?_
 simp -implicitDefEqProofs (maxSteps:=1000000) (disch:=first|rfl|omega|assumption) only [go_sem,ltT,ltF,leT,zAq,zAo,List.nil_append,List.append_nil,List.cons_append,List.getElem?_cons_zero,List.getElem?_cons_succ,Tryz.f41,h1,y1,y2,y3,y4,y5]
 done
theorem wi_iff {n lo hi:Int}:wi n lo hi=true↔lo≤n∧n≤hi:=by simp [wi]
theorem spans_it {L M:Nat} {vb vt:AV} {s:Stl} {es:List (AV×AV)} (hp:PlOk H L M vb vt s es) (blk:Int) (m:Nat):ItOk (H++[.box (.ptr L 0),.box (I blk),.box (I m)]) L M vb vt s es H.length blk m :=
 ⟨by rw [get_at];rfl,by rw [zAe];rfl,by rw [zAe];rfl,hp.app _⟩
theorem se_settled {L M:Nat} {vb vt:AV} {s:Stl} {es:List (AV×AV)} (hs:s.Wf) {blk:Int} {b:Blk} (h0:0≤blk) (hb:s.bs[blk.toNat]? = some b) {m:Nat} (hm:m≤60) (hp:PlOk H L M vb vt s es) (hg:Good s es) :
  zA8 cfg0 zA0 false 55 [.ptr L 0,I blk,I m] H none=some ⟨.ret (.bool (settl s blk b m)),H.set M (.map 122 (memT s blk b m es b.n)),none⟩:=by
 have hk':True:=trivial
 have hL:=hp.hL
 have hM:=hp.hM
 have hn:=hs.near
 have h1:=se_hull hs h0 hb hm hg (spans_it hp blk m)
 rw [set_lt hM] at h1
 have hlo:settl s blk b m=(decide (-s.near≤warmLo s blk b m)&&decide (warmHi s blk b m≤s.near)):=rfl
 rw [hlo]
 generalize warmLo s blk b m=lo at *
 generalize warmHi s blk b m=hi at *
 have hp1:=hp.set (memT s blk b m es b.n)
 have hl1:(H.set M (.map 122 (memT s blk b m es b.n))).length=H.length:=List.length_set
 generalize H.set M (.map 122 (memT s blk b m es b.n))=H1 at *
 have hL1:=hp1.hL
 have hs1:=hp1.bs.scal
 have hs2:=hp1.ts.scal
 have y1:∀ (A:Heap) (i:Nat),(H1++A)[H.length+i]? = A[i]? := fun A i=>by rw [← hl1];exact zAe _
 have y2:∀ (A:Heap),(H1++A)[H.length]? = A[0]? := fun A=>by rw [← hl1];exact get_at
 have y3:∀ (A:Heap),(H1++A).take H.length=H1:=fun A=>by rw [← hl1,List.take_left]
 have y5:∀ (A:Heap) (i:Nat) (o':AO),(H1++A).set (H.length+i) o'=H1++A.set i o':=fun A i o'=>by
  rw [← hl1];exact zBs _
 have e1:IntKind.i64.wrap (0-s.near) = -s.near:=by rw [w64 (by omega) (by omega)];omega
 by_cases c1 : -s.near≤lo
 ·by_cases c2:hi≤s.near
  ·simp only [c1,c2,decide_true,Bool.and_self]
   refine (zA1 fn55 rfl (by simp [Tryz.f55])).trans ?_
   simp -implicitDefEqProofs (maxSteps:=1000000) (disch:=first|rfl|omega|assumption) only [go_sem,ltT,ltF,leT,se_spans,h1,hl1,y1,y2,y3,y5]
   rw [zAg];rotate_left;kernel_rfl
   simp -implicitDefEqProofs (maxSteps:=1000000) (disch:=first|rfl|omega|assumption) only [go_sem,ltT,ltF,leT,hl1,zA6 hL1,hp1.box,y1,y2,y3,y5,e1,c1,c2,hs1,hs2]
   done
  ·simp only [c1,c2,decide_true,decide_false,Bool.and_false]
   refine (zA1 fn55 rfl (by simp [Tryz.f55])).trans ?_
   simp -implicitDefEqProofs (maxSteps:=1000000) (disch:=first|rfl|omega|assumption) only [go_sem,ltT,ltF,leT,se_spans,h1,hl1,y1,y2,y3,y5]
   rw [zAg];rotate_left;kernel_rfl
   simp -implicitDefEqProofs (maxSteps:=1000000) (disch:=first|rfl|omega|assumption) only [go_sem,ltT,ltF,leT,hl1,zA6 hL1,hp1.box,y1,y2,y3,y5,e1,c1,c2,hs1,hs2]
   done
 ·simp only [c1,decide_false,Bool.false_and]
  refine (zA1 fn55 rfl (by simp [Tryz.f55])).trans ?_
  simp -implicitDefEqProofs (maxSteps:=1000000) (disch:=first|rfl|omega|assumption) only [go_sem,ltT,ltF,leT,se_spans,h1,hl1,y1,y2,y3,y5]
  rw [zAg];rotate_left;kernel_rfl
  simp -implicitDefEqProofs (maxSteps:=1000000) (disch:=first|rfl|omega|assumption) only [go_sem,ltT,ltF,leT,hl1,zA6 hL1,hp1.box,y1,y2,y3,y5,e1,c1,hs1,hs2]
  done
def Blk.okb (b:Blk):Bool:=spn b.x0 b.x1 (-100) 100&&(spn b.s0 b.s1 2 8&&spn b.g0 b.g1 0 20)
def Tch.okb (n:Nat) (last:Int) (t:Tch):Bool:=wi t.b 0 ((n:Int)-1)&&(wi t.m 0 last&&spn t.h0 t.h1 (-100) 100)
structure Stl.Ok (s:Stl):Prop where
 n:1≤s.bs.length∧s.bs.length≤4
 near:0≤s.near∧s.near≤20
 last:1≤s.last∧s.last≤60
 nt:s.ts.length≤6
 bk:∀ i,i<s.bs.length→(s.bs.getD i ⟨0,0,0,0,0,0⟩).okb=true
 tc:∀ i,i<s.ts.length→(s.ts.getD i ⟨0,0,0,0⟩).okb s.bs.length s.last=true
theorem spn_iff {a b lo hi:Int}:spn a b lo hi=true↔lo≤a∧a≤b∧b≤hi:=by simp [spn]
theorem Blk.okb_ok {b:Blk} (h:b.okb=true):b.Ok:=by
 simp only [Blk.okb,Bool.and_eq_true,spn_iff] at h
 obtain ⟨⟨a1,a2,a3⟩,⟨a4,a5,a6⟩,a7,a8,a9⟩:=h
 exact ⟨a1,a2,a3,a4,a5,a6,a7,a8,a9⟩
theorem mem_getD {α:Type} {l:List α} {x d:α} (h:x∈l):∃ i,i<l.length∧l.getD i d=x:=by
 obtain ⟨i,hi,rfl⟩:=List.getElem_of_mem h
 exact ⟨i,hi,by simp [hi]⟩
theorem Stl.Ok.wf {s:Stl} (h:s.Ok):s.Wf:=by
 refine ⟨fun b hb=>?_,fun t ht=>?_,by have:=h.nt;omega,h.near,h.last,h.n.2⟩
 ·obtain ⟨i,hi,rfl⟩:=mem_getD (d:=⟨0,0,0,0,0,0⟩) hb
  exact Blk.okb_ok (h.bk i hi)
 ·obtain ⟨i,hi,rfl⟩:=mem_getD (d:=⟨0,0,0,0⟩) ht
  have:=h.tc i hi
  simp only [Tch.okb,Bool.and_eq_true,spn_iff] at this
  exact this.2.2
theorem se_isBlock {L M:Nat} {vb vt:AV} {s:Stl} {es:List (AV×AV)} (hp:PlOk H L M vb vt s es) (hl:s.bs.length≤1000) (n:Int):zA8 cfg0 zA0 false 39 [.ptr L 0,I n] H none=some ⟨.ret (.bool (wi n 0 ((s.bs.length:Int)-1))),H,none⟩:=by
 have e1:IntKind.i64.wrap ((s.bs.length:Int)-1)=(s.bs.length:Int)-1:=w64 (by omega) (by omega)
 have l1:=hp.bs.len
 rw [List.length_map] at l1
 have hL:=hp.hL
 have hs1:=hp.bs.scal
 have hs2:=hp.ts.scal
 refine (zA1 fn39 rfl (by simp [Tryz.f39])).trans ?_
 simp -implicitDefEqProofs (maxSteps:=1000000) (disch:=first|rfl|omega|assumption) only [go_sem,ltT,ltF,leT,zA6 hL,hp.box,l1,e1,se_within,hs1,hs2]
 done
theorem se_isMinute {L M:Nat} {vb vt:AV} {s:Stl} {es:List (AV×AV)} (hp:PlOk H L M vb vt s es) (n:Int):zA8 cfg0 zA0 false 40 [.ptr L 0,I n] H none=some ⟨.ret (.bool (wi n 0 s.last)),H,none⟩:=by
 have hL:=hp.hL
 have hs1:=hp.bs.scal
 have hs2:=hp.ts.scal
 refine (zA1 fn40 rfl (by simp [Tryz.f40])).trans ?_
 simp -implicitDefEqProofs (maxSteps:=1000000) (disch:=first|rfl|omega|assumption) only [go_sem,ltT,ltF,leT,zA6 hL,hp.box,se_within,hs1,hs2]
 done
def sA (vb vt:AV) (s:Stl):AV:=.agg [vb,I s.near,I s.last,vt]
def pl3 (n:Nat) (vb vt:AV) (s:Stl):Heap:=[.box (.agg [vb,I s.near,I s.last,vt]),.map 122 [],.box (.agg [vb,I s.near,I s.last,vt,.map (n+1)])]
def pl4 (n:Nat) (vb vt:AV) (s:Stl):Heap:=.box (.agg [vb,I s.near,I s.last,vt])::pl3 (n+1) vb vt s
theorem se_on {vb vt:AV} {s:Stl} (hs1:vb.scalar=true) (hs2:vt.scalar=true) (H:Heap):zA8 cfg0 zA0 false 62 [.agg [vb,I s.near,I s.last,vt]] H none=some ⟨.ret (.ptr (H.length+2) 0),H++pl3 H.length vb vt s,none⟩:=by
 simp only [pl3]
 refine (zA1 fn62 rfl (by simp [Tryz.f62])).trans ?_
 simp -implicitDefEqProofs (maxSteps:=1000000) (disch:=first|rfl|omega|assumption) only [go_sem,ltT,ltF,leT,hs1,hs2]
 done
theorem pl4_ok {vb vt:AV} {s:Stl} (hvb:SlOk H 6 vb (s.bs.map Blk.av)) (hvt:SlOk H 4 vt (s.ts.map Tch.av)):PlOk (H++pl4 H.length vb vt s) (H.length+3) (H.length+2) vb vt s [] :=
 ⟨by rw [zAe];rfl,by rw [zAe];rfl,hvb.app _,hvt.app _⟩
theorem op_l3 {vb vt:AV} {s:Stl} (ho:s.Ok) (hvb:SlOk H 6 vb (s.bs.map Blk.av)) (hvt:SlOk H 4 vt (s.ts.map Tch.av)) (fy:Fn) (hfn:∀ N,fnLt N fy=true) (caps:List AV) (hcp:∀ N,ltL (H.length+N) caps=true) (K:List Item) (R:Option Done) (hK:∀ E:Env,E.get 1=.func fy [] caps→E.get 2=.ptr H.length 0→Option.map (zAi H.length) (zAh cfg0 zA0 ⟨26,none,false,H.length⟩ K ⟨E,[],H++[.box (.agg [vb,I s.near,I s.last,vt])],none⟩)=R)  :
  ∀ (q j:Nat),j+q=s.bs.length→∀ (G:Heap),∀ E:Env,E.get 1=.func fy [] caps→E.get 2=.ptr H.length 0→E.get 32=vb→E.get 33=I s.bs.length→E.get 34=I j →
  Option.map (zAi H.length) (zAh cfg0 zA0 ⟨26,none,false,H.length⟩ (zAb Tryz.f26 3::.inBlock 0::K) ⟨E,[],H++(.box (.agg [vb,I s.near,I s.last,vt])::G),none⟩)=R:=by
 intro q
 obtain ⟨a1,a2,a3,a4,a5⟩:=hvb.fF (d:=(⟨0,0,0,0,0,0⟩:Blk))
 have hs1:=hvb.scal
 have hs2:=hvt.scal
 have t1:=hvb.ltn 1
 have t2:=hvt.ltn 1
 have hc1:=hcp 1
 have h4:=ho.n
 induction q with
 | zero =>
  intro j hj G E g1 g2 g32 g33 g34
  have hk':¬ (j:Int)<((s.bs.length:Nat):Int):=by omega
  simp only [zAb,zA4,zA7,zAa,zA3,↓reduceIte,Option.some.injEq,Nat.reduceEqDiff,reduceCtorEq,Tryz.f26]
  rw [zA2]
  simp -implicitDefEqProofs (maxSteps:=1000000) (disch:=first|rfl|omega|assumption) only [go_sem,g1,g2,g32,g33,g34,ltT,ltF,leT,hk',hs1,hs2,t1,t2,hc1,hfn]
  exact hK _ (by rfl) (by rfl)
 | succ q ih =>
  intro j hj G E g1 g2 g32 g33 g34
  have hk':(j:Int)<((s.bs.length:Nat):Int):=by omega
  have hk2:j<s.bs.length:=by omega
  obtain ⟨x,hx⟩:∃ x,s.bs.getD j ⟨0,0,0,0,0,0⟩=x:=⟨_,rfl⟩
  have hb:=ho.bk j hk2
  rw [hx] at hb
  have hcl:∀ x:Blk,x.av.cells=[I x.x0,I x.x1,I x.s0,I x.s1,I x.g0,I x.g1]:=fun _=>rfl
  simp only [Blk.okb,Bool.and_eq_true] at hb
  obtain ⟨b1,b2,b3⟩:=hb
  have hm:=fun e G=>se_must true e G
  simp only [if_true] at hm
  have key:=fun G=>ih (j+1) (by omega) G
  simp only [zAb,zA4,zA7,zAa,zA3,↓reduceIte,Option.some.injEq,Nat.reduceEqDiff,reduceCtorEq,Tryz.f26]
  rw [zA2]
  simp -implicitDefEqProofs (maxSteps:=1000000) (disch:=first|rfl|omega|assumption) only [go_sem,g1,g2,g32,g33,g34,ltT,ltF,leT,hk',hs1,hs2,t1,t2,hc1,hfn,a1,a2,a3,a4,a5,hx,hcl,se_span,b1,b2,b3,hm]
  exact key _ _ (by rfl) (by rfl) (by rfl) (by rfl) (by rfl)
theorem op_l9 {vb vt:AV} {s:Stl} (ho:s.Ok) (hvb:SlOk H 6 vb (s.bs.map Blk.av)) (hvt:SlOk H 4 vt (s.ts.map Tch.av)) (fy:Fn) (hfn:∀ N,fnLt N fy=true) (caps:List AV) (hcp:∀ N,ltL (H.length+N) caps=true) (K:List Item) (R:Option Done) (hK:∀ E:Env,E.get 1=.func fy [] caps→E.get 7=.ptr (H.length+3) 0→Option.map (zAi H.length) (zAh cfg0 zA0 ⟨26,none,false,H.length⟩ K ⟨E,[],H++pl4 H.length vb vt s,none⟩)=R)  :
  ∀ (q j:Nat),j+q=s.ts.length→∀ (G:Heap),∀ E:Env,E.get 1=.func fy [] caps→E.get 7=.ptr (H.length+3) 0→E.get 56=vt→E.get 57=I s.ts.length→E.get 58=I j →
  Option.map (zAi H.length) (zAh cfg0 zA0 ⟨26,none,false,H.length⟩ (zAb Tryz.f26 9::.inBlock 2::K) ⟨E,[],H++(pl4 H.length vb vt s++G),none⟩)=R:=by
 intro q
 obtain ⟨a1,a2,a3,a4,a5⟩:=hvt.fF (d:=(⟨0,0,0,0⟩:Tch))
 have hs1:=hvb.scal
 have hs2:=hvt.scal
 have t1:=hvb.ltn 4
 have t2:=hvt.ltn 4
 have hc1:=hcp 4
 have h4:=ho.n
 have h6:=ho.nt
 have hp:=fun G:Heap=>(pl4_ok hvb hvt).app G
 have hB:=fun (G:Heap)=>se_isBlock (hp G) (by omega)
 have hMi:=fun (G:Heap)=>se_isMinute (hp G)
 simp only [pl4,pl3,List.cons_append,List.nil_append,List.append_assoc,Nat.add_assoc,Nat.reduceAdd] at hB hMi ⊢
 induction q with
 | zero =>
  intro j hj G E g1 g7 g56 g57 g58
  have hk':¬ (j:Int)<((s.ts.length:Nat):Int):=by omega
  simp only [zAb,zA4,zA7,zAa,zA3,↓reduceIte,Option.some.injEq,Nat.reduceEqDiff,reduceCtorEq,Tryz.f26]
  rw [zA2]
  simp -implicitDefEqProofs (maxSteps:=1000000) (disch:=first|rfl|omega|assumption) only [go_sem,g1,g7,g56,g57,g58,ltT,ltF,leT,hk',hs1,hs2,t1,t2,hc1,hfn]
  exact hK _ (by rfl) (by rfl)
 | succ q ih =>
  intro j hj G E g1 g7 g56 g57 g58
  have hk':(j:Int)<((s.ts.length:Nat):Int):=by omega
  have hk2:j<s.ts.length:=by omega
  obtain ⟨x,hx⟩:∃ x,s.ts.getD j ⟨0,0,0,0⟩=x:=⟨_,rfl⟩
  have hb:=ho.tc j hk2
  rw [hx] at hb
  have hcl:∀ x:Tch,x.av.cells=[I x.b,I x.m,I x.h0,I x.h1]:=fun _=>rfl
  simp only [Tch.okb,Bool.and_eq_true] at hb
  obtain ⟨b1,b2,b3⟩:=hb
  have hm:=fun e G=>se_must true e G
  simp only [if_true] at hm
  have key:=fun G=>ih (j+1) (by omega) G
  simp only [zAb,zA4,zA7,zAa,zA3,↓reduceIte,Option.some.injEq,Nat.reduceEqDiff,reduceCtorEq,Tryz.f26]
  rw [zA2]
  simp -implicitDefEqProofs (maxSteps:=1000000) (disch:=first|rfl|omega|assumption) only [go_sem,g1,g7,g56,g57,g58,ltT,ltF,leT,hk',hs1,hs2,t1,t2,hc1,hfn,a1,a2,a3,a4,a5,hx,hcl,hB,hMi,se_span,b1,b2,b3,hm]
  exact key _ _ (by rfl) (by rfl) (by rfl) (by rfl) (by rfl)
theorem se_open {vb vt:AV} {s:Stl} (ho:s.Ok) (hvb:SlOk H 6 vb (s.bs.map Blk.av)) (hvt:SlOk H 4 vt (s.ts.map Tch.av)) (fy:Fn) (hfn:∀ N,fnLt N fy=true) (caps:List AV) (hcp:∀ N,ltL (H.length+N) caps=true)
  (hfi:∀ bb:Nat,zAw cfg0 zA0 bb false fy [.ptr (H.length+3) 0] caps (H++pl4 H.length vb vt s) none=some ⟨.ret (.bool true),H++pl4 H.length vb vt s,none⟩) :
  zA8 cfg0 zA0 false 26 [.agg [vb,I s.near,I s.last,vt],.func fy [] caps] H none=some ⟨.ret (.ptr (H.length+3) 0),H++pl4 H.length vb vt s,none⟩:=by
 have hk':True:=trivial
 have hs1:=hvb.scal
 have hs2:=hvt.scal
 have l1:=hvb.len
 rw [List.length_map] at l1
 have l2:=hvt.len
 rw [List.length_map] at l2
 obtain ⟨n1,n2⟩:=ho.n
 obtain ⟨n3,n4⟩:=ho.near
 obtain ⟨n5,n6⟩:=ho.last
 have n7:=ho.nt
 have w1:wi (s.bs.length:Int) 1 4=true:=wi_iff.2 ⟨by omega,by omega⟩
 have w2:wi s.near 0 20=true:=wi_iff.2 ⟨by omega,by omega⟩
 have w3:wi s.last 1 60=true:=wi_iff.2 ⟨by omega,by omega⟩
 have w4:(s.ts.length:Int)≤6:=by omega
 have hm:=fun e G=>se_must true e G
 simp only [if_true] at hm
 have q3:=op_l3 ho hvb hvt fy hfn caps hcp
 have q9:=op_l9 ho hvb hvt fy hfn caps hcp
 have hon:=fun G:Heap=>se_on (s:=s) hs1 hs2 (H++G)
 simp only [pl4,pl3,List.cons_append,List.nil_append,List.append_assoc,List.length_append,List.length_cons,List.length_nil,Nat.add_assoc,Nat.reduceAdd] at hfi hon q9 ⊢
 refine (zA1 fn26 rfl (by simp [Tryz.f26])).trans ?_
 simp -implicitDefEqProofs (maxSteps:=1000000) (disch:=first|rfl|omega|assumption) only [go_sem,ltT,ltF,leT,hs1,hs2,l1,l2,se_within,w1,w2,w3,w4,hm]
 refine q3 _ _ (fun E g1 g2=>?_) s.bs.length 0 (by omega) [] _ (by rfl) (by rfl) (by rfl) (by rfl) (by rfl)
 simp -implicitDefEqProofs (maxSteps:=1000000) (disch:=first|rfl|omega|assumption) only [go_sem,g1,g2,ltT,ltF,leT,hk',hs1,hs2,l1,l2,hon]
 refine q9 _ _ (fun E g1 g7=>?_) s.ts.length 0 (by omega) [] _ (by exact g1) (by rfl) (by rfl) (by rfl) (by rfl)
 simp -implicitDefEqProofs (maxSteps:=1000000) (disch:=first|rfl|omega|assumption) only [go_sem,g1,g7,ltT,ltF,leT,hk',hfi,hm,List.cons_append,List.nil_append]
 done
theorem reach {c:Nat→Bool} {j:Nat} (h:∀ i,i<j→c i=true) (hj:c j=true):∀ i,i<j+1→c i=true:=by
 intro i hi
 rcases Nat.lt_or_ge i j with h1 | h1
 ·exact h i h1
 ·have:i=j:=by omega
  subst this;exact hj
def findN (d:Nat→Bool):Nat→Nat→Option Nat
 | _,0=>none
 | j,m+1=>if d j then some j else findN d (j+1) m
theorem stop_find (d:Nat→Bool):∀ m j,(findN d j m=none∧stopAt (fun i=>!d i) j m=j+m∧∀ i,j≤i→i<j+m→d i=false)∨∃ i,findN d j m=some i∧stopAt (fun i=>!d i) j m=i+1∧d i=true∧j≤i∧i<j+m∧∀ i',j≤i'→i' < i→d i'=false:=by
 intro m
 induction m with
 | zero=>intro j;exact .inl ⟨rfl,rfl,fun i h1 h2=>by omega⟩
 | succ m ih =>
  intro j
  simp only [findN,stopAt]
  by_cases hd:d j=true
  ·exact .inr ⟨j,by simp [hd],by simp [hd],hd,by omega,by omega,fun i h1 h2=>by omega⟩
  ·have hd:d j=false:=by simpa using hd
   simp only [hd,Bool.false_eq_true,if_false,Bool.not_false,if_true]
   rcases ih (j+1) with ⟨h1,h2,h3⟩ | ⟨i,h1,h2,h3,h4,h5,h6⟩
   ·refine .inl ⟨h1,by omega,fun i hi1 hi2=>?_⟩
    rcases Nat.lt_or_ge j i with h | h
    ·exact h3 i h (by omega)
    ·have:i=j:=by omega
     subst this;exact hd
   ·refine .inr ⟨i,h1,h2,h3,by omega,by omega,fun i' hi1 hi2=>?_⟩
    rcases Nat.lt_or_ge j i' with h | h
    ·exact h6 i' h hi2
    ·have:i'=j:=by omega
     subst this;exact hd
noncomputable def fiE (h:Nat) (v0 v1:AV):Env:=[(7,v0),(5,.ptr (h+2) 0),(4,.ptr (h+1) 0),(3,.ptr h 0),(0,v0),(1,v1)]
noncomputable def fiB (h:Nat) (is v0 v1:AV):Heap:=[.box (.agg [is]),.box (I 0),.box (.bool false),.dfr,.loop { zAq Tryz.f51 51 0 (fiE h v0 v1) (h+3) with state:=.busy }]
noncomputable def fiR (h:Nat) (is v0 v1:AV) (r:Option Int):Heap :=
 match r with
 | none=>[.box (.agg [is]),.box (I 0),.box (.bool false),.dfr,.loop (zAq Tryz.f51 51 0 (fiE h v0 v1) (h+3))]
 | some x=>[.box (.agg [is]),.box (I x),.box (.bool true),.dfr,.loop { zAq Tryz.f51 51 0 (fiE h v0 v1) (h+3) with state:=.done,pending:=some .ret }]
theorem fi_step {bb:Nat} (G G' E:Heap) (h:Nat) (hh:G.length=h) (hh':G'.length=h) (fi:Fn) (caps:List AV) (x:Int) (d:Bool) (v0 v1:AV)
  (hd:∀ bb:Nat,zAw cfg0 zA0 bb false fi [I x] caps (G++(fiB h (.func fi [] caps) v0 v1++E)) none=some ⟨.ret (.bool d),G'++(fiB h (.func fi [] caps) v0 v1++E),none⟩) :
  zAw cfg0 zA0 bb false (.yield (h+4)) [I x] [] (G++(fiR h (.func fi [] caps) v0 v1 none++E)) none =
  some ⟨.ret (.bool (!d)),G'++(fiR h (.func fi [] caps) v0 v1 (if d then some x else none)++E),none⟩:=by
 have hk':True:=trivial
 have a0:∀ E,(G'++E)[h]? = E[0]? := fun E=>by rw [← hh'];exact get_at
 have a1:∀ n E,(G'++E)[h+n]? = E[n]? := fun n E=>by rw [← hh'];exact zAe n
 have a2:∀ o E,(G'++E).set h o=G'++E.set 0 o:=fun o E=>by rw [← hh',List.set_append_right _ _ (Nat.le_refl _)];simp
 have a3:∀ n o E,(G'++E).set (h+n) o=G'++E.set n o:=fun n o E=>by rw [← hh'];exact zBs n
 have a4:∀ E n,(G'++E).take (h+n)=G'++E.take n:=fun E n=>by rw [← hh'];exact List.take_length_add_append _
 simp only [fiB,fiE,zAq,zAo,List.nil_append,List.append_nil,List.cons_append,List.getElem?_cons_zero,List.getElem?_cons_succ,Tryz.f51] at hd
 subst hh
 cases d
 ·simp only [fiR,fiE,Bool.false_eq_true,if_false]
  simp -implicitDefEqProofs (maxSteps:=1000000) (disch:=first|rfl|omega|assumption) only [go_sem,ltT,ltF,leT,zAq,zAo,List.nil_append,List.append_nil,List.cons_append,List.getElem?_cons_zero,List.getElem?_cons_succ,Tryz.f51,hd,a0,a1,a2,a3,a4]
  done
 ·simp only [fiR,fiE,if_true]
  simp -implicitDefEqProofs (maxSteps:=1000000) (disch:=first|rfl|omega|assumption) only [go_sem,ltT,ltF,leT,zAq,zAo,List.nil_append,List.append_nil,List.cons_append,List.getElem?_cons_zero,List.getElem?_cons_succ,Tryz.f51,hd,a0,a1,a2,a3,a4]
  done
theorem bk_loop {σ:Type} (G:Nat→σ→Heap) (Inv:σ→Prop) (frm y b0:Nat) (c:Nat→Bool) (hlen:∀ j x,(G j x).length=b0) (hfrm:frm≤1000) (hy:y<b0)
  (hstep:∀ j x E,j≤frm→(∀ i,i<j→c i=true)→Inv x→∃ x',Inv x'∧∀ bb:Nat,zAw cfg0 zA0 bb false (.yield y) [I ((frm:Int)-j)] [] (G j x++E) none=some ⟨.ret (.bool (c j)),G (j+1) x'++E,none⟩) :
  ∀ (q j:Nat) (x:σ),j+q=frm+1→(∀ i,i<j→c i=true)→Inv x →
  ∃ x',Inv x'∧∀ (E:Heap) (e:Env),e.get 0=.func (.yield y) [] []→e.get 3=I ((frm:Int)-j) →
   Option.map (zAi b0) (zAh cfg0 zA0 ⟨71,none,false,b0⟩ (zA7 Tryz.f71 1) ⟨e,[],G j x++E,none⟩)=some ⟨.ret (.tup []),G (stopAt c j q) x',none⟩:=by
 intro q
 have hk':True:=trivial
 induction q with
 | zero =>
  intro j x hj hre hx
  refine ⟨x,hx,?_⟩
  intro E e g0 g3
  have hl:=hlen j x
  have hc:¬ 0≤(frm:Int)-j:=by omega
  simp only [stopAt]
  generalize G j x=G0 at *
  subst hl
  have htk:∀ E:Heap,(G0++E).take G0.length=G0:=fun E=>List.take_left
  simp only [zAb,zA4,zA7,zAa,zA3,↓reduceIte,Option.some.injEq,Nat.reduceEqDiff,reduceCtorEq,Tryz.f71]
  rw [zA2]
  simp -implicitDefEqProofs (maxSteps:=1000000) (disch:=first|rfl|omega|assumption) only [go_sem,g0,g3,ltT,ltF,leT,hk',hc,hy,htk]
  done
 | succ q ih =>
  intro j x hj hre hx
  obtain ⟨x1,hx1,hc1⟩:=hstep j x [] (by omega) hre hx
  simp only [List.append_nil] at hc1
  have hl:=hlen j x
  have hl1:=hlen (j+1) x1
  have hc:0≤(frm:Int)-j:=by omega
  have e1:IntKind.i64.wrap ((frm:Int)-j-1)=(frm:Int)-((j+1:Nat):Int):=by rw [w64 (by omega) (by omega)];omega
  cases hcj:c j with
  | false =>
   refine ⟨x1,hx1,?_⟩
   intro E e g0 g3
   simp only [stopAt,hcj,Bool.false_eq_true,if_false]
   rw [hcj] at hc1
   generalize G (j+1) x1=G1 at *
   generalize G j x=G0 at *
   subst hl
   have htk:G1.take G0.length=G1:=List.take_of_length_le (by omega)
   simp only [zAb,zA4,zA7,zAa,zA3,↓reduceIte,Option.some.injEq,Nat.reduceEqDiff,reduceCtorEq,Tryz.f71]
   rw [zA2]
   simp -implicitDefEqProofs (maxSteps:=1000000) (disch:=first|rfl|omega|assumption) only [go_sem,g0,g3,ltT,ltF,leT,hk',hc,hc1,hy,htk]
   done
  | true =>
   obtain ⟨x',hx',hih⟩:=ih (j+1) x1 (by omega) (reach hre hcj) hx1
   refine ⟨x',hx',?_⟩
   intro E e g0 g3
   simp only [stopAt,hcj,if_true]
   have hih:=hih []
   rw [List.append_nil] at hih
   rw [hcj] at hc1
   generalize G (j+1) x1=G1 at *
   generalize G j x=G0 at *
   subst hl
   simp only [zAb,zA4,zA7,zAa,zA3,↓reduceIte,Option.some.injEq,Nat.reduceEqDiff,reduceCtorEq,Tryz.f71]
   rw [zA2]
   simp -implicitDefEqProofs (maxSteps:=1000000) (disch:=first|rfl|omega|assumption) only [go_sem,g0,g3,ltT,ltF,leT,hk',hc,hc1,e1,hy]
   exact hih _ (by rfl) (by rfl)
theorem se_back1 {σ:Type} (G:Nat→σ→Heap) (Inv:σ→Prop) (A frm y b0:Nat) (c:Nat→Bool) (hlen:∀ j x,(G j x).length=b0) (hA:∀ j x,(G j x)[A]? = some (.box (I frm))) (hfrm:frm≤1000) (hy:y<b0)
  (hstep:∀ j x E,j≤frm→(∀ i,i<j→c i=true)→Inv x→∃ x',Inv x'∧∀ bb:Nat,zAw cfg0 zA0 bb false (.yield y) [I ((frm:Int)-j)] [] (G j x++E) none=some ⟨.ret (.bool (c j)),G (j+1) x'++E,none⟩) (x:σ) (hx:Inv x) :
  ∃ x',Inv x'∧zA8 cfg0 zA0 false 71 [.func (.yield y) [] [],.ptr A 0] (G 0 x) none=some ⟨.ret (.tup []),G (stopAt c 0 (frm+1)) x',none⟩:=by
 have hk':True:=trivial
 obtain ⟨x',hx',hr⟩:=bk_loop G Inv frm y b0 c hlen hfrm hy hstep (frm+1) 0 x (by omega) (fun i hi'=>by omega) hx
 refine ⟨x',hx',?_⟩
 have hr:=hr []
 rw [List.append_nil] at hr
 have hl:=hlen 0 x
 have ha:=hA 0 x
 generalize G (stopAt c 0 (frm+1)) x'=G1 at *
 generalize G 0 x=G0 at *
 subst hl
 refine (zA1 fn71 rfl (by simp [Tryz.f71])).trans ?_
 simp -implicitDefEqProofs (maxSteps:=1000000) (disch:=first|rfl|omega|assumption) only [go_sem,ltT,ltF,leT,ha]
 exact hr _ (by rfl) (by simp [Env.get])
theorem se_back (n:Int) (H:Heap):zA8 cfg0 zA0 false 52 [I n] H none=some ⟨.ret (.func (.func 71) [] [.ptr H.length 0]),H++[.box (I n)],none⟩:=by
 refine (zA1 fn52 rfl (by simp [Tryz.f52])).trans ?_
 simp -implicitDefEqProofs (maxSteps:=1000000) (disch:=first|rfl|omega|assumption) only [go_sem,ltT,ltF,leT]
 done
noncomputable def fiAt (d:Nat→Bool) (frm:Nat) (j:Nat):Option Int :=
 match j with
 | 0=>none
 | i+1=>if d i then some ((frm:Int)-i) else none
theorem se_first {σ:Type} (H:σ→Heap) (Inv:σ→Prop) (h A frm:Nat) (fi:Fn) (caps:List AV) (d:Nat→Bool) (hlen:∀ x,(H x).length=h) (hA:∀ x,(H x)[A]? = some (.box (I frm))) (hfrm:frm≤1000)
  (hd:∀ j x E,j≤frm→Inv x→∃ x',Inv x'∧∀ bb:Nat,zAw cfg0 zA0 bb false fi [I ((frm:Int)-j)] caps (H x++E) none=some ⟨.ret (.bool (d j)),H x'++E,none⟩) (x:σ) (hx:Inv x) :
  ∃ x',Inv x'∧zA8 cfg0 zA0 false 51 [.func (.func 71) [] [.ptr A 0],.agg [.func fi [] caps]] (H x) none =
   some ⟨.ret (match findN d 0 (frm+1) with | some i=>.tup [I ((frm:Int)-i),.bool true] | none=>.tup [I 0,.bool false]),H x',none⟩:=by
 have hk':True:=trivial
 have hAl:∀ x,A<(H x).length:=fun x=>(List.getElem?_eq_some_iff.1 (hA x)).1
 obtain ⟨x',hx',hr⟩:=se_back1 (fun j x=>H x++fiR h (.func fi [] caps) (.func (.func 71) [] [.ptr A 0]) (.agg [.func fi [] caps]) (fiAt d frm j)) Inv A frm (h+4) (h+5) (fun j=>!d j)
  (fun j x=>by simp only [List.length_append,hlen];unfold fiR;split<;>rfl) (fun j x=>by rw [zA6 (hAl x)];exact hA x) hfrm (by omega) (by
   intro j y E hj hre hy
   obtain ⟨y',hy',hy2⟩:=hd j y (fiB h (.func fi [] caps) (.func (.func 71) [] [.ptr A 0]) (.agg [.func fi [] caps])++E) hj hy
   refine ⟨y',hy',?_⟩
   have h0:fiAt d frm j=none:=by
    cases j with
    | zero=>rfl
    | succ i =>
     have:=hre i (by omega)
     simp only [fiAt]
     rw [if_neg (by simpa using this)]
   intro bb
   have hs:=fi_step (bb:=bb) (H y) (H y') E h (hlen y) (hlen y') fi caps ((frm:Int)-j) (d j) (.func (.func 71) [] [.ptr A 0]) (.agg [.func fi [] caps]) hy2
   rw [h0,List.append_assoc,hs,List.append_assoc]
   rfl) x hx
 refine ⟨x',hx',?_⟩
 have hl:=hlen x
 have hl':=hlen x'
 have a0:∀ E,(H x'++E)[h]? = E[0]? := fun E=>by rw [← hl'];exact get_at
 have a1:∀ n E,(H x'++E)[h+n]? = E[n]? := fun n E=>by rw [← hl'];exact zAe n
 have a2:∀ o E,(H x'++E).set h o=H x'++E.set 0 o:=fun o E=>by rw [← hl',List.set_append_right _ _ (Nat.le_refl _)];simp
 have a3:∀ n o E,(H x'++E).set (h+n) o=H x'++E.set n o:=fun n o E=>by rw [← hl'];exact zBs n
 have a4:∀ E,(H x'++E).take h=H x':=fun E=>by rw [← hl'];exact List.take_left
 rcases stop_find d (frm+1) 0 with ⟨h1,h2,h3⟩ | ⟨i,h1,h2,h3,h4,h5,h6⟩
 ·rw [h2] at hr
  have ht:fiAt d frm (0+(frm+1))=none:=by
   rw [Nat.zero_add];simp only [fiAt];rw [if_neg (by simp [h3 frm (by omega) (by omega)])]
  rw [ht,show fiAt d frm 0=none from rfl] at hr
  simp only [fiR,fiE,zAq,zAo,List.nil_append,List.append_nil,List.cons_append,List.getElem?_cons_zero,List.getElem?_cons_succ,Tryz.f51] at hr
  simp only [h1]
  generalize H x'=G1 at *
  generalize H x=G0 at *
  subst hl
  refine (zA1 fn51 rfl (by simp [Tryz.f51])).trans ?_
  simp -implicitDefEqProofs (maxSteps:=1000000) (disch:=first|rfl|omega|assumption) only [go_sem,ltT,ltF,leT,zAq,zAo,List.nil_append,List.append_nil,List.cons_append,List.getElem?_cons_zero,List.getElem?_cons_succ,Tryz.f51,hr,a0,a1,a2,a3,a4]
  done
 ·rw [h2] at hr
  have ht:fiAt d frm (i+1)=some ((frm:Int)-i):=by simp only [fiAt,h3,if_true]
  rw [ht,show fiAt d frm 0=none from rfl] at hr
  simp only [fiR,fiE,zAq,zAo,List.nil_append,List.append_nil,List.cons_append,List.getElem?_cons_zero,List.getElem?_cons_succ,Tryz.f51] at hr
  simp only [h1]
  generalize H x'=G1 at *
  generalize H x=G0 at *
  subst hl
  refine (zA1 fn51 rfl (by simp [Tryz.f51])).trans ?_
  simp -implicitDefEqProofs (maxSteps:=1000000) (disch:=first|rfl|omega|assumption) only [go_sem,ltT,ltF,leT,zAq,zAo,List.nil_append,List.append_nil,List.cons_append,List.getElem?_cons_zero,List.getElem?_cons_succ,Tryz.f51,hr,a0,a1,a2,a3,a4]
  done
end Go.Ab
