/- Warmth: how much a block grows. -/
import Derived.Test.YtcnfneofbflimaaGreatKK2
namespace Go.Ab
open Go.Proofs
set_option linter.unusedSimpArgs false
set_option linter.unusedVariables false
set_option maxRecDepth 100000
set_option maxHeartbeats 2000000
variable {H:Heap}
theorem wa_within (n lo hi:Int) (H:Heap):zA9 cfg0 zA2 false 82 [I n,I lo,I hi] H none=some ⟨.ret (.bool (wi n lo hi)),H,none⟩:=by
 refine (zA1 fn82 rfl (by simp [Tryz.f82])).trans ?_
 by_cases h1:lo≤n<;>simp -implicitDefEqProofs only [go_sem,h1,wi]
def spW (lo hi low high wide:Int):Bool:=decide (low≤lo)&&(decide (lo≤hi)&&(decide (hi≤high)&&decide (hi-lo≤wide)))
theorem wa_isSpan (lo hi low high wide:Int) (hl : -100000≤low∧low≤100000) (hh : -100000≤high∧high≤100000) (H:Heap):zA9 cfg0 zA2 false 90 [.agg [I lo,I hi],I low,I high,I wide] H none=some ⟨.ret (.bool (spW lo hi low high wide)),H,none⟩:=by
 simp only [spW]
 by_cases h1:low≤lo
 ·by_cases h2:lo≤hi
  ·by_cases h3:hi≤high
   ·skip
    refine (zA1 fn90 rfl (by simp [Tryz.f90])).trans ?_
    simp -implicitDefEqProofs (maxSteps:=1000000) (disch:=first|rfl|omega|assumption) only [go_sem,ltT,ltF,leT,h1,h2,h3,decide_true,Bool.true_and]
    done
   ·skip
    refine (zA1 fn90 rfl (by simp [Tryz.f90])).trans ?_
    simp -implicitDefEqProofs (maxSteps:=1000000) (disch:=first|rfl|omega|assumption) only [go_sem,ltT,ltF,leT,h1,h2,h3,decide_true,Bool.true_and,decide_false,Bool.false_and]
    done
  ·skip
   refine (zA1 fn90 rfl (by simp [Tryz.f90])).trans ?_
   simp -implicitDefEqProofs (maxSteps:=1000000) (disch:=first|rfl|omega|assumption) only [go_sem,ltT,ltF,leT,h1,h2,decide_true,Bool.true_and,decide_false,Bool.false_and]
   done
 ·skip
  refine (zA1 fn90 rfl (by simp [Tryz.f90])).trans ?_
  simp -implicitDefEqProofs (maxSteps:=1000000) (disch:=first|rfl|omega|assumption) only [go_sem,ltT,ltF,leT,h1,decide_false,Bool.false_and]
  done
theorem wa_ask (b:Bool) (e:Int) (H:Heap):zA9 cfg0 zA2 false 89 [.bool b,I e] H none=some ⟨if b then .ret (.tup []) else .pan (.iface 182 (I e)),H,none⟩:=by
 refine (zA1 fn89 rfl (by simp [Tryz.f89])).trans ?_
 cases b
 ·skip
  simp -implicitDefEqProofs (maxSteps:=1000000) (disch:=first|rfl|omega|assumption) only [go_sem,ltT,ltF,leT]
  done
 ·skip
  simp -implicitDefEqProofs (maxSteps:=1000000) (disch:=first|rfl|omega|assumption) only [go_sem,ltT,ltF,leT]
  done
theorem wa_ansn (l:Nat) (H:Heap):zA9 cfg0 zA2 true 80 [.ptr l 0] H none=some ⟨.ret (.tup []),H,none⟩:=by
 refine (zA1 fn80 rfl (by simp [Tryz.f80])).trans ?_
 simp -implicitDefEqProofs only [go_sem]
theorem mul_bd {a b:Int} (ha:0≤a∧a≤1000) (hb:0≤b∧b≤1000):0≤a*b∧a*b≤1000000:=by
 refine ⟨Int.mul_nonneg ha.1 hb.1,?_⟩
 have:=Int.mul_le_mul ha.2 hb.2 hb.1 (by omega)
 omega
theorem mul_bd3 {a b c:Int} (ha:0≤a∧a≤1000) (hb:0≤b∧b≤1000) (hc : -1000≤c∧c≤1000) : -1000000000≤a*b*c∧a*b*c≤1000000000:=by
 obtain ⟨h1,h2⟩:=mul_bd ha hb
 generalize a*b=m at h1 h2
 rcases Int.le_total 0 c with h | h
 ·have e1:=Int.mul_nonneg h1 h
  have e2:=Int.mul_le_mul h2 hc.2 h (by omega)
  omega
 ·have e1:=Int.mul_nonneg h1 (show 0 ≤ -c by omega)
  have e2:=Int.mul_le_mul h2 (show -c≤1000 by omega) (by omega) (by omega)
  rw [Int.mul_neg] at e1 e2
  omega
theorem wa_product {a b c:Int} (ha:0≤a∧a≤1000) (hb:0≤b∧b≤1000) (hc : -1000≤c∧c≤1000) (H:Heap):zA9 cfg0 zA2 false 92 [.sl true [I a,I b,I c]] H none=some ⟨.ret (I (a*b*c)),H,none⟩:=by
 have w0:IntKind.i64.wrap a=a:=w64 (by omega) (by omega)
 have w1:IntKind.i64.wrap (a*b)=a*b:=by have:=mul_bd ha hb;exact w64 (by omega) (by omega)
 have w2:IntKind.i64.wrap (a*b*c)=a*b*c:=by have:=mul_bd3 ha hb hc;exact w64 (by omega) (by omega)
 obtain ⟨a1,a2,a3,a4⟩:=(slI (H:=H) true [a,b,c]).fI
 simp only [List.map_cons,List.map_nil,List.length_cons,List.length_nil,Nat.zero_add,Nat.reduceAdd,Int.cast_ofNat_Int] at a1 a2 a3 a4
 refine (zA1 fn92 rfl (by simp [Tryz.f92])).trans ?_
 simp -implicitDefEqProofs (maxSteps:=1000000) (disch:=first|rfl|omega|assumption) only [go_sem,ltT,ltF,leT]
 rw [zA0]
 simp -implicitDefEqProofs (maxSteps:=1000000) (disch:=first|rfl|omega|assumption) only [go_sem,ltT,ltF,leT,a1,a2,a3,a4,w0,w1,w2,Int.one_mul]
 rw [zA0]
 simp -implicitDefEqProofs (maxSteps:=1000000) (disch:=first|rfl|omega|assumption) only [go_sem,ltT,ltF,leT,a1,a2,a3,a4,w0,w1,w2,Int.one_mul]
 rw [zA0]
 simp -implicitDefEqProofs (maxSteps:=1000000) (disch:=first|rfl|omega|assumption) only [go_sem,ltT,ltF,leT,a1,a2,a3,a4,w0,w1,w2,Int.one_mul]
 rw [zA0]
 simp -implicitDefEqProofs (maxSteps:=1000000) (disch:=first|rfl|omega|assumption) only [go_sem,ltT,ltF,leT,a1,a2,a3,a4,w0,w1,w2,Int.one_mul]
 done
theorem td10 (x:Int):x.tdiv 10=(if 0≤x then x/10 else -((-x)/10))∧x.tmod 10=x-10*x.tdiv 10:=by
 refine ⟨?_,Int.tmod_def x 10⟩
 split
 ·rename_i h
  exact Int.tdiv_eq_ediv_of_nonneg h
 ·rename_i h
  have:x.tdiv 10 = -((-x).tdiv 10):=by rw [Int.neg_tdiv,Int.neg_neg]
  rw [this,Int.tdiv_eq_ediv_of_nonneg (by omega)]
def grW (mark coeff t:Int):Int:=if (mark*coeff*t).tmod 10<0 then (mark*coeff*t).tdiv 10-1 else (mark*coeff*t).tdiv 10
theorem grW_bd {a b c:Int} (ha:0≤a∧a≤1000) (hb:0≤b∧b≤1000) (hc : -1000≤c∧c≤1000) : -100000001≤grW a b c∧grW a b c≤100000000:=by
 have h:=mul_bd3 ha hb hc
 simp only [grW]
 generalize a*b*c=m at h
 obtain ⟨d1,d2⟩:=td10 m
 generalize m.tdiv 10=q at *
 generalize m.tmod 10=r at *
 split at d1<;>split<;>omega
theorem grW_div (a b c:Int):grW a b c=(a*b*c)/10:=by
 simp only [grW]
 generalize a*b*c=m
 obtain ⟨d1,d2⟩:=td10 m
 generalize m.tdiv 10=q at *
 generalize m.tmod 10=r at *
 split at d1<;>split<;>omega
theorem wa_grows {m c t n:Int} (hm:0≤m∧m≤1000) (hc:0≤c∧c≤1000) (ht : -1000≤t∧t≤1000) (H:Heap):zA9 cfg0 zA2 false 84 [.agg [I n,I c],I m,I t] H none=some ⟨.ret (I (grW m c t)),H,none⟩:=by
 have hp:=fun G=>wa_product hm hc ht G
 have hb:=mul_bd3 hm hc ht
 simp only [grW]
 generalize m*c*t=x at hp hb
 have hq : -1000000000≤x.tdiv 10∧x.tdiv 10≤1000000000 ∧ -10≤x.tmod 10∧x.tmod 10≤10:=by
  obtain ⟨d1,d2⟩:=td10 x
  generalize x.tdiv 10=q at *
  generalize x.tmod 10=r at *
  split at d1<;>omega
 have q1:IntKind.i64.wrap (x.tdiv 10)=x.tdiv 10:=w64 (by omega) (by omega)
 have q2:IntKind.i64.wrap (x.tmod 10)=x.tmod 10:=w64 (by omega) (by omega)
 have q3:IntKind.i64.wrap (x.tdiv 10-1)=x.tdiv 10-1:=w64 (by omega) (by omega)
 by_cases h1:x.tmod 10<0
 ·skip
  refine (zA1 fn84 rfl (by simp [Tryz.f84])).trans ?_
  simp -implicitDefEqProofs (maxSteps:=1000000) (disch:=first|rfl|omega|assumption) only [go_sem,ltT,ltF,leT,hp,q1,q2,q3,h1]
  done
 ·skip
  refine (zA1 fn84 rfl (by simp [Tryz.f84])).trans ?_
  simp -implicitDefEqProofs (maxSteps:=1000000) (disch:=first|rfl|omega|assumption) only [go_sem,ltT,ltF,leT,hp,q1,q2,q3,h1]
  done
theorem wa_shows {m c t n:Int} (hm:0≤m∧m≤1000) (hc:0≤c∧c≤1000) (ht : -1000≤t∧t≤1000) (hn : -100000≤n∧n≤100000) (H:Heap):zA9 cfg0 zA2 false 128 [.agg [I n,I c],I m,I t] H none=some ⟨.ret (I (n+grW m c t)),H,none⟩:=by
 have hg:=fun G=>wa_grows (n:=n) hm hc ht G
 have hb:=grW_bd hm hc ht
 generalize grW m c t=x at hg hb
 have q3:IntKind.i64.wrap (n+x)=n+x:=w64 (by omega) (by omega)
 refine (zA1 fn128 rfl (by simp [Tryz.f128])).trans ?_
 simp -implicitDefEqProofs (maxSteps:=1000000) (disch:=first|rfl|omega|assumption) only [go_sem,ltT,ltF,leT]
 rw [zAa];rotate_left;kernel_rfl
 simp -implicitDefEqProofs (maxSteps:=1000000) (disch:=first|rfl|omega|assumption) only [go_sem,ltT,ltF,leT,hg,q3]
 done
def anyK (P:Int→Bool) (lo:Int):Nat→Nat→Bool
 | _,0=>false
 | j,k+1=>P (lo+j)||anyK P lo (j+1) k
def anyN (lo hi:Int):Nat:=(hi+1-lo).toNat
theorem aw_loop {y l:Nat} {lo hi:Int} (hb:H[l]? = some (.box (.agg [I lo,I hi]))) (hlo : -1000≤lo∧lo≤hi∧hi≤1000) (P:Int→Bool) {H':Heap} (hl:H'.length=H.length) (hno:∀ b t,lo≤t→t≤hi→P t=false→zB1 cfg0 zA2 b false (.yield y) [I t] [] H none=some ⟨.ret (.bool true),H,none⟩) (hyes:∀ b t,lo≤t→t≤hi→P t=true→zB1 cfg0 zA2 b false (.yield y) [I t] [] H none=some ⟨.ret (.bool false),H',none⟩) :
  ∀ (q j:Nat),j+q=anyN lo hi→∀ E:Env,E.get 0=.func (.yield y) [] []→E.get 1=.ptr l 0→E.get 3=I (lo+j) →
  Option.map (zAd H.length) (zAe cfg0 zA2 ⟨125,none,false,H.length⟩ (zA5 Tryz.f125 1) ⟨E,[],H,none⟩)=some ⟨.ret (.tup []),if anyK P lo j (anyN lo hi-j) then H' else H,none⟩:=by
 intro q
 have hn:((anyN lo hi:Nat):Int)=hi+1-lo:=by simp only [anyN];omega
 have htk:H'.take H.length=H':=List.take_of_length_le (by omega)
 induction q with
 | zero =>
  intro j hj  E g0 g1 g3
  have hk':¬ (j:Int)<((anyN lo hi:Nat):Int):=by omega
  have ej:anyN lo hi-j=0:=by omega
  rw [ej]
  simp only [anyK,Bool.false_eq_true,if_false]
  have hj1:¬ lo+(j:Int)≤hi:=by omega
  simp only [zA6,zA4,zA5,zA7,zA3,↓reduceIte,Option.some.injEq,Nat.reduceEqDiff,reduceCtorEq,Tryz.f125]
  rw [zA0]
  simp -implicitDefEqProofs (maxSteps:=1000000) (disch:=first|rfl|omega|assumption) only [go_sem,g0,g1,g3,ltT,ltF,leT,hk',hb,hj1]
  done
 | succ q ih =>
  intro j hj  E g0 g1 g3
  have hk':(j:Int)<((anyN lo hi:Nat):Int):=by omega
  have hk2:j<anyN lo hi:=by omega
  have ej:anyN lo hi-j=(anyN lo hi-(j+1))+1:=by omega
  rw [ej]
  simp only [anyK]
  have hj1:lo+(j:Int)≤hi:=by omega
  have hw:IntKind.i64.wrap (lo+(j:Int)+1)=lo+((j+1:Nat):Int):=by rw [w64 (by omega) (by omega)];omega
  rcases Bool.eq_false_or_eq_true (P (lo+(j:Int))) with hP | hP
  rotate_left
  ·have hc:=fun b=>hno b (lo+j) (by omega) hj1 hP
   have key:=ih (j+1) (by omega)
   simp only [hP,Bool.false_or]
   simp only [zA6,zA4,zA5,zA7,zA3,↓reduceIte,Option.some.injEq,Nat.reduceEqDiff,reduceCtorEq,Tryz.f125]
   rw [zA0]
   simp -implicitDefEqProofs (maxSteps:=1000000) (disch:=first|rfl|omega|assumption) only [go_sem,g0,g1,g3,ltT,ltF,leT,hk',hb,hj1,hc,hw]
   exact key _ (by exact g0) (by exact g1) (by rfl)
  ·have hc:=fun b=>hyes b (lo+j) (by omega) hj1 hP
   simp only [hP,Bool.true_or,if_true]
   simp only [zA6,zA4,zA5,zA7,zA3,↓reduceIte,Option.some.injEq,Nat.reduceEqDiff,reduceCtorEq,Tryz.f125]
   rw [zA0]
   simp -implicitDefEqProofs (maxSteps:=1000000) (disch:=first|rfl|omega|assumption) only [go_sem,g0,g1,g3,ltT,ltF,leT,hk',hb,hj1,hc,htk]
   done
theorem aw_it {y l:Nat} {lo hi:Int} (hb:H[l]? = some (.box (.agg [I lo,I hi]))) (hlo : -1000≤lo∧lo≤hi∧hi≤1000) (P:Int→Bool) {H':Heap} (hl:H'.length=H.length) (hno:∀ b t,lo≤t→t≤hi→P t=false→zB1 cfg0 zA2 b false (.yield y) [I t] [] H none=some ⟨.ret (.bool true),H,none⟩) (hyes:∀ b t,lo≤t→t≤hi→P t=true→zB1 cfg0 zA2 b false (.yield y) [I t] [] H none=some ⟨.ret (.bool false),H',none⟩) :
  zA9 cfg0 zA2 false 125 [.func (.yield y) [] [],.ptr l 0] H none=some ⟨.ret (.tup []),if anyK P lo 0 (anyN lo hi) then H' else H,none⟩:=by
 have key:=aw_loop hb hlo P hl hno hyes (anyN lo hi) 0 (by omega)
 simp only [Nat.sub_zero] at key
 refine (zA1 fn125 rfl (by simp [Tryz.f125])).trans ?_
 simp -implicitDefEqProofs (maxSteps:=1000000) (disch:=first|rfl|omega|assumption) only [go_sem,ltT,ltF,leT,hb]
 exact key _ (by rfl) (by rfl) (by simp [Env.get])
theorem wa_any (w1 w2 m:Int) (p:AV) (hp:p=.agg [I 0,I 0]∨∃ a b,p=.agg [I a,I b]) (H:Heap):zA9 cfg0 zA2 false 124 [.agg [I w1,I w2],I m,p] H none=some ⟨.ret (.func (.func 125) [] [.ptr H.length 0]),H++[.box (.agg [I w1,I w2]),.box p],none⟩:=by
 rcases hp with rfl | ⟨a,b,rfl⟩
 ·skip
  refine (zA1 fn124 rfl (by simp [Tryz.f124])).trans ?_
  simp -implicitDefEqProofs (maxSteps:=1000000) (disch:=first|rfl|omega|assumption) only [go_sem,ltT,ltF,leT]
  done
 ·skip
  refine (zA1 fn124 rfl (by simp [Tryz.f124])).trans ?_
  simp -implicitDefEqProofs (maxSteps:=1000000) (disch:=first|rfl|omega|assumption) only [go_sem,ltT,ltF,leT]
  done
structure Rd where
 w1:Int
 w2:Int
 s1:Int
 s2:Int
def rdA (r:Rd):AV:=.agg [I r.w1,I r.w2,I r.s1,I r.s2]
def Rd.Ok (r:Rd):Prop:=(-100≤r.w1∧r.w1≤r.w2∧r.w2≤100)∧(-30000≤r.s1∧r.s1≤r.s2∧r.s2≤30000)
def shB (m n c:Int) (r:Rd) (t:Int):Bool:=wi (n+grW m c t) r.s1 r.s2
def canB (m n c:Int) (r:Rd):Bool:=anyK (shB m n c r) r.w1 0 (anyN r.w1 r.w2)
theorem wa_rd (r:Rd) (m a b:Int) (H:Heap):zA9 cfg0 zA2 false 126 [rdA r,I m,.agg [I a,I b]] H none=some ⟨.ret (.func (.func 127) [] [.ptr H.length 0,.ptr (H.length+1) 0,.ptr (H.length+2) 0]),H++[.box (rdA r),.box (I m),.box (.agg [I a,I b])],none⟩:=by
 simp only [rdA]
 refine (zA1 fn126 rfl (by simp [Tryz.f126])).trans ?_
 simp -implicitDefEqProofs (maxSteps:=1000000) (disch:=first|rfl|omega|assumption) only [go_sem,ltT,ltF,leT]
 done
theorem rw_it {m n c:Int} {r:Rd} (hm:0≤m∧m≤1000) (hc:0≤c∧c≤1000) (hn : -100000≤n∧n≤100000) (hr:r.Ok) {H2:Heap} (hl:H2.length=H.length) {y br bm bp:Nat} (h1:H[br]? = some (.box (rdA r))) (h2:H[bm]? = some (.box (I m))) (h3:H[bp]? = some (.box (.agg [I n,I c])))
  (hy:∀ b t G,zB1 cfg0 zA2 b false (.yield y) [I t] [] (H++G) none=some ⟨.ret (.bool false),H2++G,none⟩) (hyl:y<H.length) :
  zA9 cfg0 zA2 false 127 [.func (.yield y) [] [],.ptr br 0,.ptr bm 0,.ptr bp 0] H none=some ⟨.ret (.tup []),if canB m n c r then H2 else H,none⟩:=by
 obtain ⟨w1,w2,s1,s2⟩:=r
 obtain ⟨⟨r1,r2,r3⟩,r4,r5,r6⟩:=hr
 simp only at r1 r2 r3 r4 r5 r6
 simp only [rdA] at h1
 have l1:=(List.getElem?_eq_some_iff.1 h1).1
 have l2:=(List.getElem?_eq_some_iff.1 h2).1
 have l3:=(List.getElem?_eq_some_iff.1 h3).1
 have hg2:∀ (l:Heap) (k:Nat),(H2++l)[H.length+k]? = l[k]? := fun l k=>by rw [List.getElem?_append_right (by omega),hl,Nat.add_sub_cancel_left]
 have hs2:∀ (l:Heap) (k:Nat) (x:AO),(H2++l).set (H.length+k) x=H2++l.set k x:=fun l k x=>by rw [List.set_append_right _ _ (by omega),hl,Nat.add_sub_cancel_left]
 have ht2:∀ l:Heap,(H2++l).take H.length=H2:=fun l=>by rw [← hl];exact List.take_left' rfl
 have ht5:∀ a b c d e:AO,(H2++[a,b,c,d,e]).take (H.length+5)=H2++[a,b,c,d,e]:=fun a b c d e=>List.take_of_length_le (by simp [hl])
 have hany:=fun G:Heap=>wa_any w1 w2 m (.agg [I n,I c]) (.inr ⟨n,c,rfl⟩) G
 obtain ⟨e,he⟩:∃ e:Env,e=[(10,.func (.func 125) [] [.ptr (H.length+1) 0]),(9,.agg [I n,I c]),(8,I m),(7,.agg [I w1,I w2]),(6,.ptr br 0),(4,.ptr H.length 0),(0,.func (.yield y) [] []),(1,.ptr br 0),(2,.ptr bm 0),(3,.ptr bp 0)]:=⟨_,rfl⟩
 have e1:e.get 1=.ptr br 0:=by rw [he];rfl
 have e2:e.get 2=.ptr bm 0:=by rw [he];rfl
 have e3:e.get 3=.ptr bp 0:=by rw [he];rfl
 have e4:e.get 4=.ptr H.length 0:=by rw [he];rfl
 have e10:e.get 10=.func (.func 125) [] [.ptr (H.length+1) 0]:=by rw [he];rfl
 have hsh:=fun (t:Int) (G:Heap) (ht : -1000≤t∧t≤1000)=>wa_shows (n:=n) hm hc ht hn G
 have hit:=aw_it (H:=H++[.box (.func (.yield y) [] []),.box (.agg [I w1,I w2]),.box (.agg [I n,I c]),.dfr,.loop (zAn Tryz.f127 127 0 e (H.length+3))]) (y:=H.length+4) (l:=H.length+1) (lo:=w1) (hi:=w2) (by simp) (by omega) (shB m n c ⟨w1,w2,s1,s2⟩)
  (H':=H2++[.box (.func (.yield y) [] []),.box (.agg [I w1,I w2]),.box (.agg [I n,I c]),.dfr,.loop { zAn Tryz.f127 127 0 e (H.length+3) with state:=.done,pending:=some .ret }]) (by simp [hl])
  (fun b t t1 t2 hP=>by
   have hs:=fun G=>hsh t G (by omega)
   simp only [shB] at hP
   generalize n+grW m c t=x at hs hP
   have hwi:=fun G=>wa_within x s1 s2 G
   rw [hP] at hwi
   simp only [zAn,zAm,List.nil_append,List.append_nil,List.cons_append,List.getElem?_cons_zero,List.getElem?_cons_succ,Tryz.f127]
   simp -implicitDefEqProofs (maxSteps:=1000000) (disch:=first|rfl|omega|assumption) only [go_sem,ltT,ltF,leT,callV_yield]
   rw [zAa];rotate_left;kernel_rfl
   simp -implicitDefEqProofs (maxSteps:=1000000) (disch:=first|rfl|omega|assumption) only [go_sem,ltT,ltF,leT,e1,e2,e3,zAt l1,zAt l2,zAt l3,h1,h2,h3,hs,hwi]
   done)
  (fun b t t1 t2 hP=>by
   have hs:=fun G=>hsh t G (by omega)
   simp only [shB] at hP
   generalize n+grW m c t=x at hs hP
   have hwi:=fun G=>wa_within x s1 s2 G
   rw [hP] at hwi
   simp only [zAn,zAm,List.nil_append,List.append_nil,List.cons_append,List.getElem?_cons_zero,List.getElem?_cons_succ,Tryz.f127]
   simp -implicitDefEqProofs (maxSteps:=1000000) (disch:=first|rfl|omega|assumption) only [go_sem,ltT,ltF,leT,callV_yield]
   rw [zAa];rotate_left;kernel_rfl
   simp -implicitDefEqProofs (maxSteps:=1000000) (disch:=first|rfl|omega|assumption) only [go_sem,ltT,ltF,leT,e1,e2,e3,e4,zAt l1,zAt l2,zAt l3,h1,h2,h3,hs,hwi,hy,hg2,hs2,ht5]
   done)
 simp only [zAn,zAm,List.nil_append,List.append_nil,List.cons_append,List.getElem?_cons_zero,List.getElem?_cons_succ,Tryz.f127] at hit
 simp only [canB]
 rcases Bool.eq_false_or_eq_true (anyK (shB m n c ⟨w1,w2,s1,s2⟩) w1 0 (anyN w1 w2)) with hA | hA<;>simp only [hA,Bool.false_eq_true,if_false,if_true] at hit ⊢
 ·skip
  refine (zA1 fn127 rfl (by simp [Tryz.f127])).trans ?_
  simp -implicitDefEqProofs (maxSteps:=1000000) (disch:=first|rfl|omega|assumption) only [go_sem,ltT,ltF,leT,zAt l1,zAt l2,zAt l3,h1,h2,h3,hany,← he,e10,hit,hg2,hs2,ht2]
  done
 ·skip
  refine (zA1 fn127 rfl (by simp [Tryz.f127])).trans ?_
  simp -implicitDefEqProofs (maxSteps:=1000000) (disch:=first|rfl|omega|assumption) only [go_sem,ltT,ltF,leT,zAt l1,zAt l2,zAt l3,h1,h2,h3,hany,← he,e10,hit,hg2,hs2,ht2]
  done
structure Wm where
 mark:Int
 n1:Int
 n2:Int
 c1:Int
 c2:Int
 rs:List Rd
structure Wm.Ok (w:Wm):Prop where
 mark:1≤w.mark∧w.mark≤100
 len : -1000≤w.n1∧w.n1≤w.n2∧w.n2≤1000∧w.n2-w.n1≤24
 co:0≤w.c1∧w.c1≤w.c2∧w.c2≤20∧w.c2-w.c1≤3
 many:w.rs.length≤5
 rd:∀ r∈w.rs,r.Ok∧r.w2-r.w1≤4∧r.s2-r.s1≤60000
def Wm.av (w:Wm) (vr:AV):AV:=.agg [I w.mark,I w.n1,I w.n2,I w.c1,I w.c2,vr]
theorem wa_can {w:Wm} (ho:w.Ok) {vr:AV} {b:Nat} (hb:H[b]? = some (.box (w.av vr))) {r:Rd} (hr:r.Ok) {n c:Int} (hn : -1000≤n∧n≤1000) (hc:0≤c∧c≤20) :
  zA9 cfg0 zA2 false 102 [.ptr b 0,.iface 204 (rdA r),.agg [I n,I c]] H none=some ⟨.ret (.bool (canB w.mark n c r)),H,none⟩:=by
 have hbl:=(List.getElem?_eq_some_iff.1 hb).1
 have hm:=ho.mark
 have hrd:=fun G:Heap=>wa_rd r w.mark n c G
 simp only [Wm.av] at hb
 obtain ⟨e,he⟩:∃ e:Env,e.get 6=.ptr (H.length+1) 0∧e=[(17,.func (.func 127) [] [.ptr (H.length+2) 0,.ptr (H.length+3) 0,.ptr (H.length+4) 0]),(16,.iface 204 (rdA r)),(15,.func (.method "blockworks/warm.warm") [.iface 204 (rdA r)] []),(14,.func (.method "blockworks/warm.warm") [.iface 204 (rdA r)] []),(13,.agg [I n,I c]),(12,I w.mark),(11,.ptr b 0),(10,.ptr b 0),(9,.ptr b 0),(8,.ptr b 0),(7,.iface 204 (rdA r)),(6,.ptr (H.length+1) 0),(5,.ptr H.length 0),(0,.ptr b 0),(1,.iface 204 (rdA r)),(2,.agg [I n,I c])]:=⟨_,rfl,rfl⟩
 obtain ⟨e6,he⟩:=he
 have e17:e.get 17=.func (.func 127) [] [.ptr (H.length+2) 0,.ptr (H.length+3) 0,.ptr (H.length+4) 0]:=by rw [he];rfl
 have hit:=rw_it (m:=w.mark) (n:=n) (c:=c) (r:=r) (H:=H++[.box (.agg [I n,I c]),.box (.bool false),.box (rdA r),.box (I w.mark),.box (.agg [I n,I c]),.dfr,.loop (zAn Tryz.f102 102 0 e (H.length+5))]) (by omega) (by omega) (by omega) hr
  (H2:=H++[.box (.agg [I n,I c]),.box (.bool true),.box (rdA r),.box (I w.mark),.box (.agg [I n,I c]),.dfr,.loop { zAn Tryz.f102 102 0 e (H.length+5) with state:=.done,pending:=some .ret }]) (by simp) (y:=H.length+6) (br:=H.length+2) (bm:=H.length+3) (bp:=H.length+4) (by simp) (by simp) (by simp)
  (fun b t G=>by
   simp only [zAn,zAm,List.nil_append,List.append_nil,List.cons_append,List.getElem?_cons_zero,List.getElem?_cons_succ,Tryz.f102]
   simp -implicitDefEqProofs (maxSteps:=1000000) (disch:=first|rfl|omega|assumption) only [go_sem,ltT,ltF,leT,callV_yield,e6]
   done) (by simp)
 simp only [zAn,zAm,List.nil_append,List.append_nil,List.cons_append,List.getElem?_cons_zero,List.getElem?_cons_succ,Tryz.f102] at hit
 simp only [rdA] at hit hrd he ⊢
 rcases Bool.eq_false_or_eq_true (canB w.mark n c r) with hA | hA<;>simp only [hA,Bool.false_eq_true,if_false,if_true] at hit ⊢
 ·skip
  refine (zA1 fn102 rfl (by simp [Tryz.f102])).trans ?_
  simp -implicitDefEqProofs (maxSteps:=1000000) (disch:=first|rfl|omega|assumption) only [go_sem,ltT,ltF,leT]
  rw [zAa];rotate_left;kernel_rfl
  simp -implicitDefEqProofs (maxSteps:=1000000) (disch:=first|rfl|omega|assumption) only [go_sem,ltT,ltF,leT,zAt hbl,hb,hrd,← he,e6,e17,hit]
  done
 ·skip
  refine (zA1 fn102 rfl (by simp [Tryz.f102])).trans ?_
  simp -implicitDefEqProofs (maxSteps:=1000000) (disch:=first|rfl|omega|assumption) only [go_sem,ltT,ltF,leT]
  rw [zAa];rotate_left;kernel_rfl
  simp -implicitDefEqProofs (maxSteps:=1000000) (disch:=first|rfl|omega|assumption) only [go_sem,ltT,ltF,leT,zAt hbl,hb,hrd,← he,e6,e17,hit]
  done
theorem wa_bad {w:Wm} (ho:w.Ok) {vr:AV} {b pb pp:Nat} (hb:H[b]? = some (.box (w.av vr))) (hpb:H[pb]? = some (.box (.ptr b 0))) {r:Rd} (hr:r.Ok) {n c:Int} (hn : -1000≤n∧n≤1000) (hc:0≤c∧c≤20) (hpp:H[pp]? = some (.box (.agg [I n,I c]))) :
  zA9 cfg0 zA2 false 101 [rdA r,.ptr pb 0,.ptr pp 0] H none=some ⟨.ret (.bool (!canB w.mark n c r)),H,none⟩:=by
 have hca:=wa_can (H:=H++[.box (rdA r)]) ho (vr:=vr) (b:=b) (by rw [List.getElem?_append_left (List.getElem?_eq_some_iff.1 hb).1];exact hb) hr hn hc
 have l1:=(List.getElem?_eq_some_iff.1 hpb).1
 have l2:=(List.getElem?_eq_some_iff.1 hpp).1
 simp only [rdA] at hca ⊢
 refine (zA1 fn101 rfl (by simp [Tryz.f101])).trans ?_
 simp -implicitDefEqProofs (maxSteps:=1000000) (disch:=first|rfl|omega|assumption) only [go_sem,ltT,ltF,leT,zAt l1,zAt l2,hpb,hpp,hca]
 done
def ixR (j:Nat):Option Nat→Int
 | some i=>((j+i:Nat):Int)
 | none => -1
def rd0:Rd:=⟨0,0,0,0⟩
theorem ix_loop {w:Wm} (ho:w.Ok) {vr vl:AV} {b pb pp:Nat} (hb:H[b]? = some (.box (w.av vr))) (hpb:H[pb]? = some (.box (.ptr b 0))) (hl:SlOk H 4 vl (w.rs.map rdA)) {n c:Int} (hn : -1000≤n∧n≤1000) (hc:0≤c∧c≤20) (hpp:H[pp]? = some (.box (.agg [I n,I c]))) :
  ∀ (q j:Nat),j+q=w.rs.length→∀ E:Env,E.get 0=vl→E.get 1=.func (.func 101) [] [.ptr pb 0,.ptr pp 0]→E.get 7=I w.rs.length→E.get 8=I j →
  Option.map (zAd H.length) (zAe cfg0 zA2 ⟨104,none,false,H.length⟩ (zA5 Tryz.f104 2) ⟨E,[],H,none⟩)=some ⟨.ret (I (ixR j ((w.rs.drop j).findIdx? (fun r=>!canB w.mark n c r)))),H,none⟩:=by
 intro q
 obtain ⟨a1,a2,a3,a4,a5⟩:=hl.fF (d:=rd0)
 have h5:=ho.many
 induction q with
 | zero =>
  intro j hj  E g0 g1 g7 g8
  have hk':¬ (j:Int)<((w.rs.length:Nat):Int):=by omega
  have ej:w.rs.drop j=[]:=List.drop_of_length_le (by omega)
  rw [ej]
  simp only [List.findIdx?_nil,ixR]
  simp only [zA6,zA4,zA5,zA7,zA3,↓reduceIte,Option.some.injEq,Nat.reduceEqDiff,reduceCtorEq,Tryz.f104]
  rw [zA0]
  simp -implicitDefEqProofs (maxSteps:=1000000) (disch:=first|rfl|omega|assumption) only [go_sem,g0,g1,g7,g8,ltT,ltF,leT,hk']
  done
 | succ q ih =>
  intro j hj  E g0 g1 g7 g8
  have hk':(j:Int)<((w.rs.length:Nat):Int):=by omega
  have hk2:j<w.rs.length:=by omega
  obtain ⟨r,hxe⟩:∃ x,w.rs.getD j rd0=x:=⟨_,rfl⟩
  have hdr:w.rs.drop j=r::w.rs.drop (j+1):=by
   rw [← hxe,List.getD_eq_getElem?_getD,List.getElem?_eq_getElem (show j<w.rs.length by omega)]
   exact List.drop_eq_getElem_cons (by omega)
  have hrm:r∈w.rs:=by rw [← hxe,List.getD_eq_getElem?_getD,List.getElem?_eq_getElem (show j<w.rs.length by omega)];exact List.getElem_mem _
  have hba:=wa_bad ho hb hpb (ho.rd r hrm).1 hn hc hpp
  have key:=ih (j+1) (by omega)
  rw [hdr,List.findIdx?_cons]
  rcases Bool.eq_false_or_eq_true (canB w.mark n c r) with hA | hA
  ·have hm:ixR (j+1) ((w.rs.drop (j+1)).findIdx? (fun r=>!canB w.mark n c r))=ixR j (Option.map (fun i=>i+1) ((w.rs.drop (j+1)).findIdx? (fun r=>!canB w.mark n c r))):=by
    cases (w.rs.drop (j+1)).findIdx? (fun r=>!canB w.mark n c r) with
    | none=>rfl
    | some i=>simp only [Option.map_some,ixR];omega
   rw [hm] at key
   simp only [hA,Bool.not_true,Bool.false_eq_true,if_false] at hba ⊢
   simp only [rdA] at a1 a2 a3 a4 hba
   simp only [zA6,zA4,zA5,zA7,zA3,↓reduceIte,Option.some.injEq,Nat.reduceEqDiff,reduceCtorEq,Tryz.f104]
   rw [zA0]
   simp -implicitDefEqProofs (maxSteps:=1000000) (disch:=first|rfl|omega|assumption) only [go_sem,g0,g1,g7,g8,ltT,ltF,leT,hk',a1,a2,a3,a4,hxe,hba]
   exact key _ (by exact g0) (by exact g1) (by exact g7) (by rfl)
  ·simp only [hA,Bool.not_false,if_true,Nat.add_zero,ixR] at hba ⊢
   simp only [rdA] at a1 a2 a3 a4 hba
   simp only [zA6,zA4,zA5,zA7,zA3,↓reduceIte,Option.some.injEq,Nat.reduceEqDiff,reduceCtorEq,Tryz.f104]
   rw [zA0]
   simp -implicitDefEqProofs (maxSteps:=1000000) (disch:=first|rfl|omega|assumption) only [go_sem,g0,g1,g7,g8,ltT,ltF,leT,hk',a1,a2,a3,a4,hxe,hba]
   done
theorem findIdx_any {α:Type} {p:α→Bool} (l:List α):decide ((0:Int)≤ixR 0 (l.findIdx? p))=l.any p:=by
 cases h:l.findIdx? p with
 | none =>
  have:=List.findIdx?_eq_none_iff.1 h
  have h2:l.any p=false:=by simpa using this
  rw [h2];rfl
 | some i =>
  have h2:l.any p=true:=by
   obtain ⟨h3,h4,_⟩:=List.findIdx?_eq_some_iff_getElem.1 h
   exact List.any_eq_true.2 ⟨_,List.getElem_mem h3,h4⟩
  rw [h2]
  exact decide_eq_true (Int.natCast_nonneg _)
def badB (w:Wm) (p:Int×Int):Bool:=w.rs.any fun r=>!canB w.mark p.1 p.2 r
theorem wa_contains {w:Wm} (ho:w.Ok) {vr vl:AV} {b pb pp:Nat} (hb:H[b]? = some (.box (w.av vr))) (hpb:H[pb]? = some (.box (.ptr b 0))) (hl:SlOk H 4 vl (w.rs.map rdA)) {n c:Int} (hn : -1000≤n∧n≤1000) (hc:0≤c∧c≤20) (hpp:H[pp]? = some (.box (.agg [I n,I c]))) :
  zA9 cfg0 zA2 false 100 [vl,.func (.func 101) [] [.ptr pb 0,.ptr pp 0]] H none=some ⟨.ret (.bool (badB w (n,c))),H,none⟩:=by
 have hlen:=hl.len
 rw [List.length_map] at hlen
 have key:=ix_loop ho hb hpb hl hn hc hpp w.rs.length 0 (by omega)
 rw [List.drop_zero] at key
 have hix:zA9 cfg0 zA2 false 104 [vl,.func (.func 101) [] [.ptr pb 0,.ptr pp 0]] H none=some ⟨.ret (I (ixR 0 (w.rs.findIdx? (fun r=>!canB w.mark n c r)))),H,none⟩:=by
  refine (zA1 fn104 rfl (by simp [Tryz.f104])).trans ?_
  simp -implicitDefEqProofs (maxSteps:=1000000) (disch:=first|rfl|omega|assumption) only [go_sem,ltT,ltF,leT,hlen]
  exact key _ (by rfl) (by rfl) (by rfl) (by rfl)
 have hfa:=findIdx_any (p:=fun r=>!canB w.mark n c r) w.rs
 generalize ixR 0 (w.rs.findIdx? (fun r=>!canB w.mark n c r))=x at hix hfa
 simp only [badB,← hfa]
 refine (zA1 fn100 rfl (by simp [Tryz.f100])).trans ?_
 simp -implicitDefEqProofs (maxSteps:=1000000) (disch:=first|rfl|omega|assumption) only [go_sem,ltT,ltF,leT,hix]
 done
theorem rdA_mk (a b c d:Int):rdA ⟨a,b,c,d⟩=.agg [I a,I b,I c,I d]:=rfl
theorem rdLt (l:List Rd) (N:Nat):ltL N (l.map rdA)=true:=zAx (fun _=>rfl) l
theorem rl_loop {w:Wm} (ho:w.Ok) {vr:AV} (h:SlOk H 4 vr (w.rs.map rdA)) :
  ∀ (q j:Nat),j+q=w.rs.length→∀ (G:Heap),∀ E:Env,E.get 2=.gsl H.length j→E.get 9=vr→E.get 10=I w.rs.length→E.get 11=I j →
  Option.map (zAd H.length) (zAe cfg0 zA2 ⟨99,none,false,H.length⟩ (zA5 Tryz.f99 2) ⟨E,[],H++(.grow 4 ((w.rs.take j).map rdA)::G),none⟩)=some ⟨.ret (.sl false (w.rs.map rdA)),H,none⟩:=by
 intro q
 obtain ⟨a1,a2,a3,a4,a5⟩:=h.fF (d:=rd0)
 have t1:=h.ltn 1
 have h5:=ho.many
 induction q with
 | zero =>
  intro j hj G E g2 g9 g10 g11
  have hk':¬ (j:Int)<((w.rs.length:Nat):Int):=by omega
  have ej:w.rs.take j=w.rs:=List.take_of_length_le (by omega)
  have ej2:j=w.rs.length:=by omega
  subst ej2
  rw [ej]
  simp only [zA6,zA4,zA5,zA7,zA3,↓reduceIte,Option.some.injEq,Nat.reduceEqDiff,reduceCtorEq,Tryz.f99]
  rw [zA0]
  have lm:(w.rs.map rdA).length=w.rs.length:=List.length_map _
  simp -implicitDefEqProofs (maxSteps:=1000000) (disch:=first|rfl|omega|assumption) only [go_sem,g2,g9,g10,g11,ltT,ltF,leT,hk',t1,rdLt,lm]
  done
 | succ q ih =>
  intro j hj G E g2 g9 g10 g11
  have hk':(j:Int)<((w.rs.length:Nat):Int):=by omega
  have hk2:j<w.rs.length:=by omega
  obtain ⟨⟨x1,x2,x3,x4⟩,hxe⟩:∃ x,w.rs.getD j rd0=x:=⟨_,rfl⟩
  have htk:=take_getD (d:=rd0) (show j<w.rs.length by omega)
  rw [hxe] at htk
  have hlj:(w.rs.take j).length=j:=by rw [List.length_take];omega
  have hadd:addElem (H++[.grow 4 ((w.rs.take j).map rdA),.box (rdA ⟨x1,x2,x3,x4⟩)]) 4 true (.gsl H.length j) [rdA ⟨x1,x2,x3,x4⟩]=some (.gsl H.length (j+1),H++[.grow 4 ((w.rs.take (j+1)).map rdA),.box (rdA ⟨x1,x2,x3,x4⟩)]):=by
   have hb:j+1≤maxLenA:=by simp only [maxLenA];omega
   have e0:zBq 4 true [rdA ⟨x1,x2,x3,x4⟩]=true:=rfl
   have e9:ltL 0 [rdA ⟨x1,x2,x3,x4⟩]=true:=rfl
   simp only [addElem]
   rw [show (H++[AO.grow 4 ((w.rs.take j).map rdA),AO.box (rdA ⟨x1,x2,x3,x4⟩)])[H.length]? = some (AO.grow 4 ((w.rs.take j).map rdA)) by simp]
   simp only [e0,e9,List.length_map,hlj,List.length_cons,List.length_nil,Nat.zero_add,hb,and_self,decide_true,Bool.and_self,if_true]
   rw [htk,List.set_append_right _ _ (Nat.le_refl _)]
   simp
  have hlt:=rdLt (w.rs.take j) 0
  have key:=ih (j+1) (by omega) [.box (rdA ⟨x1,x2,x3,x4⟩)]
  simp only [rdA_mk] at hadd key
  simp only [zA6,zA4,zA5,zA7,zA3,↓reduceIte,Option.some.injEq,Nat.reduceEqDiff,reduceCtorEq,Tryz.f99]
  rw [zA0]
  simp -implicitDefEqProofs (maxSteps:=1000000) (disch:=first|rfl|omega|assumption) only [go_sem,g2,g9,g10,g11,ltT,ltF,leT,hk',t1,hlt,a1,a2,a3,a4,hxe,hadd,rdA_mk,hlj,List.length_map]
  exact key _ (by rfl) (by rfl) (by rfl) (by rfl)
theorem wa_readings {w:Wm} (ho:w.Ok) {vr:AV} {b:Nat} (hb:H[b]? = some (.box (w.av vr))) (h:SlOk H 4 vr (w.rs.map rdA)):zA9 cfg0 zA2 false 99 [.ptr b 0] H none=some ⟨.ret (.sl false (w.rs.map rdA)),H,none⟩:=by
 have hbl:=(List.getElem?_eq_some_iff.1 hb).1
 have hlen:=h.len
 rw [List.length_map] at hlen
 have hs1:=h.scal
 have key:=rl_loop ho h w.rs.length 0 (by omega) []
 simp only [Wm.av] at hb
 refine (zA1 fn99 rfl (by simp [Tryz.f99])).trans ?_
 simp -implicitDefEqProofs (maxSteps:=1000000) (disch:=first|rfl|omega|assumption) only [go_sem,ltT,ltF,leT,hb,zAt hbl,hlen,hs1]
 exact key _ (by rfl) (by rfl) (by rfl) (by rfl)
def goodK (w:Wm) (n:Int):Nat→Nat→List (Int×Int)
 | _,0=>[]
 | j,k+1=>(if badB w (n,w.c1+j) then [] else [(n,w.c1+j)])++goodK w n (j+1) k
def goodJ (w:Wm):Nat→Nat→List (Int×Int)
 | _,0=>[]
 | j,k+1=>goodK w (w.n1+j) 0 (anyN w.c1 w.c2)++goodJ w (j+1) k
def goodL (w:Wm):List (Int×Int):=goodJ w 0 (anyN w.n1 w.n2)
structure HearsW (w:Wm) (vr:AV) (b pb N y:Nat) (W:List (Int×Int)→Heap):Prop where
 len:∀ L,(W L).length=N
 lt:y<N
 blk:∀ L,(W L)[b]? = some (.box (w.av vr))
 ptr:∀ L,(W L)[pb]? = some (.box (.ptr b 0))
 rs:∀ L,SlOk (W L) 4 vr (w.rs.map rdA)
 y:∀ base L n c G,zB1 cfg0 zA2 base false (.yield y) [.agg [I n,I c]] [] (W L++G) none=some ⟨.ret (.bool true),W (L++[(n,c)])++G,none⟩
theorem slR (H:Heap) (b:Bool) (xs:List Rd):SlOk H 4 (.sl b (xs.map rdA)) (xs.map rdA):=⟨rfl,fun x hx=>by
 obtain ⟨i,_,rfl⟩:=List.mem_map.1 hx;rfl⟩
theorem pi_loop {w:Wm} (ho:w.Ok) {vr:AV} {b pb N y:Nat} {W:List (Int×Int)→Heap} (hh:HearsW w vr b pb N y W) {n:Int} (hn : -1000≤n∧n≤1000) {R:Option Done} :
  ∀ (q j:Nat),j+q=anyN w.c1 w.c2→∀ L:List (Int×Int),(∀ (G:Heap) (E:Env),E.get 0=.func (.yield y) [] []→E.get 1=.ptr pb 0→E.get 3=.sl false (w.rs.map rdA)→E.get 4=I (n+1) →
    Option.map (zAd N) (zAe cfg0 zA2 ⟨98,none,false,N⟩ (zA5 Tryz.f98 2) ⟨E,[],W (L++goodK w n j q)++G,none⟩)=R) →
   ∀ (G:Heap) (E:Env),E.get 0=.func (.yield y) [] []→E.get 1=.ptr pb 0→E.get 3=.sl false (w.rs.map rdA)→E.get 4=I n→E.get 5=I (w.c1+j) →
    Option.map (zAd N) (zAe cfg0 zA2 ⟨98,none,false,N⟩ (zA5 Tryz.f98 5) ⟨E,[],W L++G,none⟩)=R:=by
 have hk':True:=trivial
 have hc:=ho.co
 have hcn:((anyN w.c1 w.c2:Nat):Int)=w.c2+1-w.c1:=by simp only [anyN];omega
 have htk:∀ L G,(W L++G).take N=W L:=fun L G=>by rw [← hh.len L];exact List.take_left' rfl
 have hdr:∀ L,(W L).drop N=[]:=fun L=>List.drop_of_length_le (by rw [hh.len L];exact Nat.le_refl _)
 have hbl:b<N:=by have:=(List.getElem?_eq_some_iff.1 (hh.blk [])).1;rwa [hh.len] at this
 have hpl:pb<N:=by have:=(List.getElem?_eq_some_iff.1 (hh.ptr [])).1;rwa [hh.len] at this
 have hwi:IntKind.i64.wrap (n+1)=n+1:=w64 (by omega) (by omega)
 have hyl:=hh.lt
 intro q
 induction q with
 | zero =>
  intro j hj L hend G E g0 g1 g3 g4 g5
  have hb:=hh.blk L
  have hp:=hh.ptr L
  have hj1:¬ w.c1+(j:Int)≤w.c2:=by omega
  simp only [goodK,List.append_nil] at hend
  simp only [Wm.av] at hb
  simp only [zA6,zA4,zA5,zA7,zA3,↓reduceIte,Option.some.injEq,Nat.reduceEqDiff,reduceCtorEq,Tryz.f98]
  rw [zA0]
  simp -implicitDefEqProofs (maxSteps:=1000000) (disch:=first|rfl|omega|assumption) only [go_sem,g0,g1,g3,g4,g5,ltT,ltF,leT,hk',htk,hdr,hyl,hpl,hb,hp,hj1,hwi,Nat.add_zero]
  have he:=hend []
  simp only [List.append_nil] at he
  exact he _ (by rfl) (by rfl) (by rfl) (by rfl)
 | succ q ih =>
  intro j hj L hend G E g0 g1 g3 g4 g5
  have hb:=hh.blk L
  have hp:=hh.ptr L
  have hlen:=hh.len L
  have hj1:w.c1+(j:Int)≤w.c2:=by omega
  have hwj:IntKind.i64.wrap (w.c1+(j:Int)+1)=w.c1+((j+1:Nat):Int):=by rw [w64 (by omega) (by omega)];omega
  have hcon:=wa_contains (H:=W L++[.box (.agg [I n,I (w.c1+j)])]) ho (vr:=vr) (vl:=.sl false (w.rs.map rdA)) (b:=b) (pb:=pb) (pp:=N) (by rw [List.getElem?_append_left (by omega)];exact hb) (by rw [List.getElem?_append_left (by omega)];exact hp) (slR _ false w.rs) hn (c:=w.c1+j) (by omega) (by rw [← hlen];simp)
  have hgN:∀ x:AO,(W L++[x])[N]? = some x:=fun x=>by rw [← hlen];simp
  have hsN:∀ x y:AO,(W L++[x]).set N y=W L++[y]:=fun x y=>by rw [← hlen,List.set_append_right _ _ (Nat.le_refl _)];simp
  have hgN2:∀ x:AO,(W (L++[(n,w.c1+(j:Int))])++[x])[N]? = some x:=fun x=>by rw [← hh.len (L++[(n,w.c1+(j:Int))])];simp
  have hy:=fun base=>hh.y base L n (w.c1+j) [.box (.agg [I n,I (w.c1+j)])]
  simp only [goodK] at hend
  simp only [Wm.av] at hb
  rcases Bool.eq_false_or_eq_true (badB w (n,w.c1+(j:Int))) with hB | hB
  ·rw [hB] at hcon
   simp only [hB,if_true,List.nil_append] at hend
   have key:=ih (j+1) (by omega) L hend
   simp only [zA6,zA4,zA5,zA7,zA3,↓reduceIte,Option.some.injEq,Nat.reduceEqDiff,reduceCtorEq,Tryz.f98]
   rw [zA0]
   simp -implicitDefEqProofs (maxSteps:=1000000) (disch:=first|rfl|omega|assumption) only [go_sem,g0,g1,g3,g4,g5,ltT,ltF,leT,hk',htk,hdr,hyl,hpl,zAt (show b<(W L).length by omega),zAt (show pb<(W L).length by omega),hlen,hb,hp,hj1,hwj,hgN,hsN,hcon,Nat.add_zero]
   exact key _ _ (by rfl) (by rfl) (by rfl) (by rfl) (by rfl)
  ·rw [hB] at hcon
   simp only [hB,Bool.false_eq_true,if_false,List.append_assoc] at hend
   have key:=ih (j+1) (by omega) (L++[(n,w.c1+(j:Int))]) (by simpa only [List.append_assoc] using hend)
   simp only [zA6,zA4,zA5,zA7,zA3,↓reduceIte,Option.some.injEq,Nat.reduceEqDiff,reduceCtorEq,Tryz.f98]
   rw [zA0]
   simp -implicitDefEqProofs (maxSteps:=1000000) (disch:=first|rfl|omega|assumption) only [go_sem,g0,g1,g3,g4,g5,ltT,ltF,leT,hk',htk,hdr,hyl,hpl,zAt (show b<(W L).length by omega),zAt (show pb<(W L).length by omega),hlen,hb,hp,hj1,hwj,hgN,hsN,hgN2,hcon,hy,Nat.add_zero]
   exact key _ _ (by rfl) (by rfl) (by rfl) (by rfl) (by rfl)
theorem po_loop {w:Wm} (ho:w.Ok) {vr:AV} {b pb N y:Nat} {W:List (Int×Int)→Heap} (hh:HearsW w vr b pb N y W) :
  ∀ (q j:Nat),j+q=anyN w.n1 w.n2→∀ L:List (Int×Int),∀ (G:Heap) (E:Env),E.get 0=.func (.yield y) [] []→E.get 1=.ptr pb 0→E.get 3=.sl false (w.rs.map rdA)→E.get 4=I (w.n1+j) →
    Option.map (zAd N) (zAe cfg0 zA2 ⟨98,none,false,N⟩ (zA5 Tryz.f98 2) ⟨E,[],W L++G,none⟩)=some ⟨.ret (.tup []),W (L++goodJ w j q),none⟩:=by
 have hk':True:=trivial
 have hc:=ho.co
 have hl:=ho.len
 have hcn:((anyN w.n1 w.n2:Nat):Int)=w.n2+1-w.n1:=by simp only [anyN];omega
 have htk:∀ L G,(W L++G).take N=W L:=fun L G=>by rw [← hh.len L];exact List.take_left' rfl
 have htk2:∀ L,(W L).take N=W L:=fun L=>List.take_of_length_le (by rw [hh.len L];exact Nat.le_refl _)
 have hdr:∀ L,(W L).drop N=[]:=fun L=>List.drop_of_length_le (by rw [hh.len L];exact Nat.le_refl _)
 have hbl:b<N:=by have:=(List.getElem?_eq_some_iff.1 (hh.blk [])).1;rwa [hh.len] at this
 have hpl:pb<N:=by have:=(List.getElem?_eq_some_iff.1 (hh.ptr [])).1;rwa [hh.len] at this
 have hyl:=hh.lt
 intro q
 induction q with
 | zero =>
  intro j hj L G E g0 g1 g3 g4
  have hb:=hh.blk L
  have hp:=hh.ptr L
  have hj1:¬ w.n1+(j:Int)≤w.n2:=by omega
  simp only [Wm.av] at hb
  simp only [goodJ,List.append_nil]
  simp only [zA6,zA4,zA5,zA7,zA3,↓reduceIte,Option.some.injEq,Nat.reduceEqDiff,reduceCtorEq,Tryz.f98]
  rw [zA0]
  simp -implicitDefEqProofs (maxSteps:=1000000) (disch:=first|rfl|omega|assumption) only [go_sem,g0,g1,g3,g4,ltT,ltF,leT,hk',htk,htk2,hdr,hyl,hpl,hb,hp,hj1,Nat.add_zero]
  done
 | succ q ih =>
  intro j hj L G E g0 g1 g3 g4
  have hb:=hh.blk L
  have hp:=hh.ptr L
  have hj1:w.n1+(j:Int)≤w.n2:=by omega
  simp only [Wm.av] at hb
  have key:=pi_loop ho hh (n:=w.n1+j) (by omega) (R:=some ⟨.ret (.tup []),W (L++goodJ w j (q+1)),none⟩) (anyN w.c1 w.c2) 0 (by omega) L (fun G E e0 e1 e3 e4=>by
   have:=ih (j+1) (by omega) (L++goodK w (w.n1+j) 0 (anyN w.c1 w.c2)) G E e0 e1 e3 (by rw [e4];congr 1;omega)
   rw [this]
   simp only [goodJ,List.append_assoc])
  have key2:=key []
  simp only [List.append_nil] at key2
  simp only [zA6,zA4,zA5,zA7,zA3,↓reduceIte,Option.some.injEq,Nat.reduceEqDiff,reduceCtorEq,Tryz.f98]
  rw [zA0]
  simp -implicitDefEqProofs (maxSteps:=1000000) (disch:=first|rfl|omega|assumption) only [go_sem,g0,g1,g3,g4,ltT,ltF,leT,hk',htk,hdr,hyl,hpl,hb,hp,hj1,Nat.add_zero]
  exact key2 _ (by rfl) (by rfl) (by rfl) (by rfl) (by simp [Env.get])
theorem pairs_it {w:Wm} (ho:w.Ok) {vr:AV} {b pb N y:Nat} {W:List (Int×Int)→Heap} (hh:HearsW w vr b pb N y W) :
  zA9 cfg0 zA2 false 98 [.func (.yield y) [] [],.ptr pb 0] (W []) none=some ⟨.ret (.tup []),W (goodL w),none⟩:=by
 have hb:=hh.blk []
 have hp:=hh.ptr []
 have hlen:=hh.len []
 have hrd:=wa_readings ho hb (hh.rs [])
 have key:=po_loop ho hh (anyN w.n1 w.n2) 0 (by omega) [] []
 simp only [List.append_nil,List.nil_append] at key
 simp only [Wm.av] at hb
 refine (zA1 fn98 rfl (by simp [Tryz.f98])).trans ?_
 simp -implicitDefEqProofs (maxSteps:=1000000) (disch:=first|rfl|omega|assumption) only [go_sem,ltT,ltF,leT,hb,hp,hrd,hlen]
 exact key _ (by rfl) (by rfl) (by rfl) (by simp [Env.get])
theorem wo_loop {w:Wm} (ho:w.Ok) {vr:AV} (h:SlOk H 4 vr (w.rs.map rdA)) :
  ∀ (q j:Nat),j+q=w.rs.length→∀ (G:Heap),∀ E:Env,E.get 1=I 0→E.get 2=.bool true→E.get 3=.ptr H.length 0→E.get 30=vr→E.get 31=I w.rs.length→E.get 32=I j →
  Option.map (zAd H.length) (zAe cfg0 zA2 ⟨81,none,false,H.length⟩ (zA5 Tryz.f81 3) ⟨E,[],H++(.box (w.av vr)::G),none⟩)=some ⟨.ret (.ptr (H.length+1) 0),H++[.box (w.av vr),.box (w.av vr)],none⟩:=by
 intro q
 obtain ⟨a1,a2,a3,a4,a5⟩:=h.fF (d:=rd0)
 have t1:=h.ltn 1
 have hs1:=h.scal
 have h5:=ho.many
 induction q with
 | zero =>
  intro j hj G E g1 g2 g3 g30 g31 g32
  have hk':¬ (j:Int)<((w.rs.length:Nat):Int):=by omega
  simp only [Wm.av]
  simp only [zA6,zA4,zA5,zA7,zA3,↓reduceIte,Option.some.injEq,Nat.reduceEqDiff,reduceCtorEq,Tryz.f81]
  rw [zA0]
  simp -implicitDefEqProofs (maxSteps:=1000000) (disch:=first|rfl|omega|assumption) only [go_sem,g1,g2,g3,g30,g31,g32,ltT,ltF,leT,hk',t1,hs1,wa_ask]
  done
 | succ q ih =>
  intro j hj G E g1 g2 g3 g30 g31 g32
  have hk':(j:Int)<((w.rs.length:Nat):Int):=by omega
  have hk2:j<w.rs.length:=by omega
  obtain ⟨⟨w1,w2,s1,s2⟩,hxe⟩:∃ x,w.rs.getD j rd0=x:=⟨_,rfl⟩
  have hrm:(⟨w1,w2,s1,s2⟩:Rd)∈w.rs:=by rw [← hxe,List.getD_eq_getElem?_getD,List.getElem?_eq_getElem (show j<w.rs.length by omega)];exact List.getElem_mem _
  obtain ⟨⟨⟨r1,r2,r3⟩,r4,r5,r6⟩,r7,r8⟩:=ho.rd _ hrm
  simp only at r1 r2 r3 r4 r5 r6 r7 r8
  have c1:spW w1 w2 (-100) 100 4=true:=by simp only [spW,Bool.and_eq_true,decide_eq_true_eq];omega
  have c2:spW s1 s2 (-30000) 30000 60000=true:=by simp only [spW,Bool.and_eq_true,decide_eq_true_eq];omega
  have h1:=fun G=>wa_isSpan w1 w2 (-100) 100 4 (by omega) (by omega) G
  have h2:=fun G=>wa_isSpan s1 s2 (-30000) 30000 60000 (by omega) (by omega) G
  rw [c1] at h1
  rw [c2] at h2
  have key:=ih (j+1) (by omega) [.box (.agg [I w1,I w2,I s1,I s2])]
  simp only [Wm.av] at key ⊢
  simp only [zA6,zA4,zA5,zA7,zA3,↓reduceIte,Option.some.injEq,Nat.reduceEqDiff,reduceCtorEq,Tryz.f81]
  rw [zA0]
  simp -implicitDefEqProofs (maxSteps:=1000000) (disch:=first|rfl|omega|assumption) only [go_sem,g1,g2,g3,g30,g31,g32,ltT,ltF,leT,hk',t1,hs1,a1,a2,a3,a4,hxe,rdA_mk,h1,h2,wa_ask]
  exact key _ (by rfl) (by rfl) (by rfl) (by rfl) (by rfl) (by rfl)
theorem wa_open {w:Wm} (ho:w.Ok) {vr:AV} (h:SlOk H 4 vr (w.rs.map rdA)):zA9 cfg0 zA2 false 81 [w.av vr,I 0,.bool true] H none=some ⟨.ret (.ptr (H.length+1) 0),H++[.box (w.av vr),.box (w.av vr)],none⟩:=by
 have t1:=h.ltn 1
 have hs1:=h.scal
 have hlen:=h.len
 rw [List.length_map] at hlen
 have h5:=ho.many
 have hm:=ho.mark
 have hl:=ho.len
 have hc:=ho.co
 have key:=wo_loop ho h w.rs.length 0 (by omega) []
 have c0:wi w.mark 1 100=true:=by simp only [wi,Bool.and_eq_true,decide_eq_true_eq];omega
 have c1:spW w.n1 w.n2 (-1000) 1000 24=true:=by simp only [spW,Bool.and_eq_true,decide_eq_true_eq];omega
 have c2:spW w.c1 w.c2 0 20 3=true:=by simp only [spW,Bool.and_eq_true,decide_eq_true_eq];omega
 have h1:=fun G=>wa_isSpan w.n1 w.n2 (-1000) 1000 24 (by omega) (by omega) G
 have h2:=fun G=>wa_isSpan w.c1 w.c2 0 20 3 (by omega) (by omega) G
 rw [c1] at h1
 rw [c2] at h2
 have h0:=fun G=>wa_within w.mark 1 100 G
 rw [c0] at h0
 have c5:(w.rs.length:Int)≤5:=by omega
 simp only [Wm.av] at key ⊢
 refine (zA1 fn81 rfl (by simp [Tryz.f81])).trans ?_
 simp -implicitDefEqProofs (maxSteps:=1000000) (disch:=first|rfl|omega|assumption) only [go_sem,ltT,ltF,leT,t1,hs1,hlen,h0,h1,h2,c5,wa_ask]
 exact key _ (by rfl) (by rfl) (by rfl) (by rfl) (by rfl) (by rfl)
def kP (p:Int×Int):AV:=.agg [I p.1,I p.2]
theorem kP_same (a b:Int×Int):(kP a).same (kP b)=decide (a=b):=by
 obtain ⟨a1,a2⟩:=a
 obtain ⟨b1,b2⟩:=b
 rw [Bool.eq_iff_iff]
 simp only [kP,AV.same,zBb,Bool.and_eq_true,beq_iff_eq,decide_eq_true_eq,Prod.mk.injEq,and_true,true_and]
def mapP (L:List (Int×Int)):List (AV×AV):=L.foldl (fun es p=>putM (kP p) (.bool true) es) []
theorem putPq (p:Int×Int):∀ D:List (Int×Int),putM (kP p) (.bool true) (D.map fun q=>(kP q,AV.bool true))=(if p∈D then D else D++[p]).map fun q=>(kP q,AV.bool true)
 | []=>rfl
 | q::D=>by
  have ih:=putPq p D
  simp only [List.map_cons,putM,kP_same,decide_eq_true_eq]
  by_cases e:p=q
  ·subst e;simp
  ·simp only [e,if_false,ih,List.mem_cons,false_or]
   split<;>simp
theorem mapP_is (L:List (Int×Int)):∃ D:List (Int×Int),mapP L=D.map (fun q=>(kP q,AV.bool true))∧∀ p,p∈D↔p∈L:=by
 have key:∀ (L D:List (Int×Int)),∃ D':List (Int×Int),L.foldl (fun es p=>putM (kP p) (.bool true) es) (D.map fun q=>(kP q,AV.bool true))=D'.map (fun q=>(kP q,AV.bool true))∧∀ p,p∈D'↔(p∈D∨p∈L):=by
  intro L
  induction L with
  | nil=>intro D;exact ⟨D,rfl,by simp⟩
  | cons x L ih =>
   intro D
   rw [List.foldl_cons,putPq]
   obtain ⟨D',h1,h2⟩:=ih (if x∈D then D else D++[x])
   refine ⟨D',h1,fun p=>?_⟩
   rw [h2]
   split
   ·rename_i hx
    simp only [List.mem_cons]
    constructor
    ·rintro (h | h)
     ·exact .inl h
     ·exact .inr (.inr h)
    ·rintro (h | rfl | h)
     ·exact .inl h
     ·exact .inl hx
     ·exact .inr h
   ·simp only [List.mem_append,List.mem_cons,List.not_mem_nil,or_false,or_assoc]
 obtain ⟨D,h1,h2⟩:=key L []
 exact ⟨D,h1,by simpa using h2⟩
theorem mapP_snoc (L:List (Int×Int)) (p:Int×Int):putM (kP p) (.bool true) (mapP L)=mapP (L++[p]):=by
 simp only [mapP,List.foldl_append,List.foldl_cons,List.foldl_nil]
theorem wa_pairs (b:Nat) (H:Heap):zA9 cfg0 zA2 false 91 [.ptr b 0] H none=some ⟨.ret (.func (.func 98) [] [.ptr H.length 0]),H++[.box (.ptr b 0)],none⟩:=by
 refine (zA1 fn91 rfl (by simp [Tryz.f91])).trans ?_
 simp -implicitDefEqProofs (maxSteps:=1000000) (disch:=first|rfl|omega|assumption) only [go_sem,ltT,ltF,leT]
 done
theorem wa_told {w:Wm} (ho:w.Ok) {vr:AV} {b:Nat} (hb:H[b]? = some (.box (w.av vr))) (hr:SlOk H 4 vr (w.rs.map rdA)) (hg:goodL w≠[]) :
  ∃ G,zA9 cfg0 zA2 false 83 [.ptr b 0] H none=some ⟨.ret (.map H.length),H++(.map 171 (mapP (goodL w))::G),none⟩:=by
 have hbl:=(List.getElem?_eq_some_iff.1 hb).1
 obtain ⟨e,he⟩:∃ e:Env,e=[(7,.func (.func 98) [] [.ptr (H.length+2) 0]),(6,.ptr b 0),(3,.ptr (H.length+1) 0),(5,.map H.length),(2,.nilmap),(0,.ptr b 0)]:=⟨_,rfl⟩
 have e3:e.get 3=.ptr (H.length+1) 0:=by rw [he];rfl
 have e7:e.get 7=.func (.func 98) [] [.ptr (H.length+2) 0]:=by rw [he];rfl
 have hit:=pairs_it ho (vr:=vr) (b:=b) (pb:=H.length+2) (N:=H.length+5) (y:=H.length+4) (W:=fun L=>H++[.map 171 (mapP L),.box (.map H.length),.box (.ptr b 0),.dfr,.loop (zAn Tryz.f83 83 0 e (H.length+3))])
  ⟨fun L=>by simp,by omega,fun L=>by rw [List.getElem?_append_left hbl];exact hb,fun L=>by simp,fun L=>hr.app _,fun base L n c G=>by
   have hp:=mapP_snoc L (n,c)
   simp only [kP] at hp
   simp only [zAn,zAm,List.nil_append,List.append_nil,List.cons_append,List.getElem?_cons_zero,List.getElem?_cons_succ,Tryz.f83]
   simp -implicitDefEqProofs (maxSteps:=1000000) (disch:=first|rfl|omega|assumption) only [go_sem,ltT,ltF,leT,callV_yield,e3,hp]
   done⟩
 have hm0:mapP []=[]:=rfl
 have hlt:(0:Int)<(mapP (goodL w)).length:=by
  obtain ⟨D,h1,h2⟩:=mapP_is (goodL w)
  obtain ⟨p,r,hp⟩:=List.exists_cons_of_ne_nil hg
  have:p∈D:=(h2 p).2 (by rw [hp];simp)
  have:=List.length_pos_of_mem this
  rw [h1,List.length_map]
  omega
 have hpa:=fun G:Heap=>wa_pairs b G
 refine ⟨[.box (.map H.length),.box (.ptr b 0),.dead,.loop { zAn Tryz.f83 83 0 e (H.length+3) with state:=.exhausted }],?_⟩
 simp only [zAn,zAm,List.nil_append,List.append_nil,List.cons_append,List.getElem?_cons_zero,List.getElem?_cons_succ,Tryz.f83,hm0] at hit
 simp only [zAn,zAm,List.nil_append,List.append_nil,List.cons_append,List.getElem?_cons_zero,List.getElem?_cons_succ,Tryz.f83]
 refine (zA1 fn83 rfl (by simp [Tryz.f83])).trans ?_
 simp -implicitDefEqProofs (maxSteps:=1000000) (disch:=first|rfl|omega|assumption) only [go_sem,ltT,ltF,leT,hpa,← he,e3,e7,hit,hlt,wa_ask]
 done
def stopN (m c off:Int):Nat→Nat
 | 0=>0
 | n+1=>if grW m c (-((n+1:Nat):Int)) < -off then stopN m c off n else n+1
theorem stopN_le (m c off:Int):∀ n,stopN m c off n≤n
 | 0=>Nat.le_refl _
 | n+1=>by
  have:=stopN_le m c off n
  simp only [stopN]
  split<;>omega
theorem grW_mono {m c:Int} (hm:0≤m) (hc:0≤c) {s t:Int} (h:s≤t):grW m c s≤grW m c t:=by
 rw [grW_div,grW_div]
 have:m*c*s≤m*c*t:=Int.mul_le_mul_of_nonneg_left h (Int.mul_nonneg hm hc)
 exact Int.ediv_le_ediv (by omega) this
theorem stopN_fix {m c off:Int} (hm:0≤m) (hc:0≤c):∀ n,stopN m c off n=n∨∀ k,k≥n→grW m c (-((k:Nat):Int)) < -off
 | 0=>.inl rfl
 | n+1=>by
  simp only [stopN]
  split
  ·rename_i h
   refine .inr fun k hk=>?_
   have:=grW_mono hm hc (s := -((k:Nat):Int)) (t := -((n+1:Nat):Int)) (by omega)
   omega
  ·exact .inl rfl
theorem stopN_min {m c off:Int} (hm:0≤m) (hc:0≤c):∀ (d n:Nat),stopN m c off n=min n (stopN m c off (n+d))
 | 0,n=>by have:=stopN_le m c off n;rw [Nat.add_zero];omega
 | d+1,n=>by
  have ih:=stopN_min (m:=m) (c:=c) (off:=off) hm hc d n
  have h1:stopN m c off (n+(d+1))=if grW m c (-((n+d+1:Nat):Int)) < -off then stopN m c off (n+d) else n+d+1:=rfl
  rw [h1]
  split
  ·exact ih
  ·rename_i hb
   rcases stopN_fix (off:=off) hm hc n with h | h
   ·rw [h];omega
   ·exact absurd (h (n+d+1) (by omega)) hb
def roomN (m off:Int) (D:List (Int×Int)):Nat:=D.foldl (fun n p=>min n (stopN m p.2 off 100)) 100
theorem foldmin_le (f:Int×Int→Nat):∀ (D:List (Int×Int)) (n:Nat),D.foldl (fun n p=>min n (f p)) n≤n
 | [],n=>Nat.le_refl _
 | p::D,n=>by
  have:=foldmin_le f D (min n (f p))
  rw [List.foldl_cons]
  omega
theorem room_perm {m off:Int} {D D':List (Int×Int)} (h:D.Perm D'):roomN m off D=roomN m off D' :=
 h.foldl_eq' (fun x _ y _ z=>by omega) _
abbrev dR (N:Nat):List ADefer:=[.fn (.func 80) [.ptr (N+1) 0] []]
theorem ro_in {w:Wm} (ho:w.Ok) {vr:AV} {off:Int} (hoff:0≤off∧off≤30000) {K:Heap} {l8 it:Nat} {p:Int×Int} (hp : -1000≤p.1∧p.1≤1000∧0≤p.2∧p.2≤20) (h2:K[H.length]? = some (.box (w.av vr))) (h8:K[l8]? = some (.box (kP p))) {D:Done} {n0:Nat}
  (hend:∀ E:Env,E.get 1=I off→E.get 2=.ptr H.length 0→E.get 5=.ptr (H.length+1) 0→E.get 7=I (stopN w.mark p.2 off n0)→E.get 15=.ptr it 0→zAe cfg0 zA2 ⟨62,none,false,H.length⟩ (zA5 Tryz.f62 5) ⟨E,dR H.length,K,none⟩=some D) :
  ∀ n:Nat,n≤100→stopN w.mark p.2 off n=stopN w.mark p.2 off n0→∀ E:Env,E.get 1=I off→E.get 2=.ptr H.length 0→E.get 5=.ptr (H.length+1) 0→E.get 7=I n→E.get 8=.ptr l8 0→E.get 15=.ptr it 0 →
   zAe cfg0 zA2 ⟨62,none,false,H.length⟩ (zA5 Tryz.f62 7) ⟨E,dR H.length,K,none⟩=some D:=by
 have hk':True:=trivial
 have hm:=ho.mark
 obtain ⟨p1,p2⟩:=p
 simp only [kP] at h8 hp
 simp only [Wm.av] at h2
 intro n
 induction n with
 | zero =>
  intro hn hs E g1 g2 g5 g7 g8 g15
  have hz:¬ ((0:Nat):Int)>0:=by omega
  have hs0:stopN w.mark p2 off n0=0:=by rw [← hs];rfl
  rw [hs0] at hend
  simp only [zA6,zA4,zA5,zA7,zA3,↓reduceIte,Option.some.injEq,Nat.reduceEqDiff,reduceCtorEq,Tryz.f62]
  rw [zA0]
  simp -implicitDefEqProofs (maxSteps:=1000000) (disch:=first|rfl|omega|assumption) only [go_sem,g1,g2,g5,g7,g8,g15,ltT,ltF,leT,hk',hz,h2,h8]
  exact hend _ (by exact g1) (by exact g2) (by exact g5) (by exact g7) (by exact g15)
 | succ n ih =>
  intro hn hs E g1 g2 g5 g7 g8 g15
  have hz:(0:Int)<((n+1:Nat):Int):=by omega
  have hg:=fun G=>wa_grows (m:=w.mark) (c:=p2) (t:=0-((n+1:Nat):Int)) (n:=p1) (by omega) (by omega) (by omega) G
  have hst:stopN w.mark p2 off (n+1)=if grW w.mark p2 (-((n+1:Nat):Int)) < -off then stopN w.mark p2 off n else n+1:=rfl
  have hne:IntKind.i64.wrap (-((n+1:Nat):Int)) = -((n+1:Nat):Int):=w64 (by omega) (by omega)
  have hno:IntKind.i64.wrap (-off) = -off:=w64 (by omega) (by omega)
  have hn1:IntKind.i64.wrap (((n+1:Nat):Int)-1)=(n:Int):=by rw [w64 (by omega) (by omega)];omega
  rw [hst] at hs
  by_cases hb:grW w.mark p2 (-((n+1:Nat):Int)) < -off
  ·rw [if_pos hb] at hs
   have hb':grW w.mark p2 (0-((n+1:Nat):Int))<0-off:=by rw [show (0:Int)-((n+1:Nat):Int) = -((n+1:Nat):Int) by omega];omega
   have key:=ih (by omega) hs
   simp only [zA6,zA4,zA5,zA7,zA3,↓reduceIte,Option.some.injEq,Nat.reduceEqDiff,reduceCtorEq,Tryz.f62]
   rw [zA0]
   simp -implicitDefEqProofs (maxSteps:=1000000) (disch:=first|rfl|omega|assumption) only [go_sem,g1,g2,g5,g7,g8,g15,ltT,ltF,leT,hk',hz,h2,h8,hg,hn1,hb']
   exact key _ (by exact g1) (by exact g2) (by exact g5) (by rfl) (by exact g8) (by exact g15)
  ·rw [if_neg hb] at hs
   have hb':¬ grW w.mark p2 (0-((n+1:Nat):Int))<0-off:=by rw [show (0:Int)-((n+1:Nat):Int) = -((n+1:Nat):Int) by omega];omega
   rw [← hs] at hend
   simp only [zA6,zA4,zA5,zA7,zA3,↓reduceIte,Option.some.injEq,Nat.reduceEqDiff,reduceCtorEq,Tryz.f62]
   rw [zA0]
   simp -implicitDefEqProofs (maxSteps:=1000000) (disch:=first|rfl|omega|assumption) only [go_sem,g1,g2,g5,g7,g8,g15,ltT,ltF,leT,hk',hz,h2,h8,hg,hn1,hb']
   exact hend _ (by exact g1) (by exact g2) (by exact g5) (by exact g7) (by exact g15)
end Go.Ab
