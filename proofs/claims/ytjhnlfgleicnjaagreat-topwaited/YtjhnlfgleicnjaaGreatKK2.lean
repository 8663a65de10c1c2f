/- The layer settle: when; All; Excess. -/
import Derived.Test.YtjhnlfgleicnjaaGreatKK1
import Derived.Test.YtjhnlfgleicnjaaGreatKK0
namespace Go.Ab
open Go.Proofs
set_option linter.unusedSimpArgs false
set_option linter.unusedVariables false
set_option maxRecDepth 100000
set_option maxHeartbeats 2000000
variable {H:Heap}
theorem se_when1 {L M P Q:Nat} {vb vt:AV} {s:Stl} {es:List (AV×AV)} (hs:s.Wf) {blk:Int} {b:Blk} (h0:0≤blk) (hb:s.bs[blk.toNat]? = some b) {m:Nat} (hm:m≤60) (hp:PlOk H L M vb vt s es) (hg:Good s es) (hP:H[P]? = some (.box (.ptr L 0))) (hQ:H[Q]? = some (.box (I blk))) :
  zA8 cfg0 zA0 false 63 [I m,.ptr P 0,.ptr Q 0] H none=some ⟨.ret (.bool (!settl s blk b m)),H.set M (.map 122 (memT s blk b m es b.n)),none⟩:=by
 have hk':True:=trivial
 have lP:=(List.getElem?_eq_some_iff.1 hP).1
 have lQ:=(List.getElem?_eq_some_iff.1 hQ).1
 have h1:=se_settled hs h0 hb hm hp hg
 have hl1:(H.set M (.map 122 (memT s blk b m es b.n))).length=H.length:=List.length_set
 generalize H.set M (.map 122 (memT s blk b m es b.n))=H1 at *
 have htk:H1.take H.length=H1:=List.take_of_length_le (by omega)
 refine (zA1 fn63 rfl (by simp [Tryz.f63])).trans ?_
 simp -implicitDefEqProofs (maxSteps:=1000000) (disch:=first|rfl|omega|assumption) only [go_sem,ltT,ltF,leT,zA6 lP,zA6 lQ,hP,hQ,h1,htk]
 done
def whenR (s:Stl) (blk:Int) (b:Blk):Option Int :=
 match findN (fun j=>!settl s blk b (s.last.toNat-j)) 0 (s.last.toNat+1) with
 | none=>some 0
 | some i=>if i=0 then none else some (s.last-i+1)
theorem se_when {L M:Nat} {vb vt:AV} {s:Stl} {es:List (AV×AV)} (hs:s.Wf) {blk:Int} {b:Blk} (h0:0≤blk) (hb:s.bs[blk.toNat]? = some b) (hp:PlOk H L M vb vt s es) (hg:Good s es) :
  ∃ es',Good s es'∧zA8 cfg0 zA0 false 28 [.ptr L 0,I blk] H none=some ⟨match whenR s blk b with | some w=>.ret (I w) | none=>.pan (.iface 108 (.agg [I 4])),H.set M (.map 122 es'),none⟩:=by
 have hk':True:=trivial
 have hL:=hp.hL
 have hM:=hp.hM
 obtain ⟨n1,n2⟩:=hs.last
 obtain ⟨frm,hfrm⟩:∃ frm:Nat,s.last=frm:=⟨s.last.toNat,by omega⟩
 have hf2:s.last.toNat=frm:=by omega
 obtain ⟨es',hg',h1⟩:=se_first (fun es'=>H.set M (.map 122 es')++[.box (.ptr L 0),.box (I blk),.box (I s.last)]) (Good s) (H.length+3) (H.length+2) frm (.func 63) [.ptr H.length 0,.ptr (H.length+1) 0] (fun j=>!settl s blk b (frm-j))
  (fun x=>by simp) (fun x=>by
   have:(H.set M (.map 122 x)).length=H.length:=List.length_set
   rw [← this,zAe,hfrm];rfl) (by omega) (by
   intro j x E hj hx
   refine ⟨memT s blk b (frm-j) x b.n,memT_good h0 hb _ hx _,fun bb=>?_⟩
   have hlx:(H.set M (.map 122 x)).length=H.length:=List.length_set
   have hpx:PlOk (H.set M (.map 122 x)++([.box (.ptr L 0),.box (I blk),.box (I s.last)]++E)) L M vb vt s x:=(hp.set x).app _
   have:=se_when1 hs h0 hb (m:=frm-j) (by omega) hpx hx (P:=H.length) (Q:=H.length+1) (by rw [← hlx,get_at];rfl) (by rw [← hlx,zAe];rfl)
   rw [set_lt (by rw [List.length_set];exact hM),List.set_set] at this
   have e:(frm:Int)-(j:Int)=((frm-j:Nat):Int):=by omega
   rw [callVL_func,e,List.append_assoc,List.append_assoc]
   exact this) es hg
 refine ⟨es',hg',?_⟩
 rw [set_self hp.mp] at h1
 have hwr:whenR s blk b=match findN (fun j=>!settl s blk b (frm-j)) 0 (frm+1) with
  | none=>some 0
  | some i=>if i=0 then none else some (s.last-i+1):=by simp only [whenR,hf2]
 rw [hwr]
 have hsf:=stop_find (fun j=>!settl s blk b (frm-j)) (frm+1) 0
 have hp1:=hp.set es'
 have hl1:(H.set M (.map 122 es')).length=H.length:=List.length_set
 generalize H.set M (.map 122 es')=H1 at *
 have hL1:=hp1.hL
 have hs1:=hp.bs.scal
 have hs2:=hp.ts.scal
 have y1:∀ (A:Heap) (i:Nat),(H1++A)[H.length+i]? = A[i]? := fun A i=>by rw [← hl1];exact zAe _
 have y2:∀ (A:Heap),(H1++A)[H.length]? = A[0]? := fun A=>by rw [← hl1];exact get_at
 have y3:∀ (A:Heap),(H1++A).take H.length=H1:=fun A=>by rw [← hl1,List.take_left]
 have hbk:=fun G:Heap=>se_back s.last (H++G)
 have hm1:=fun (e:Int) (G:Heap)=>se_must true e G
 have hm2:=fun (e:Int) (G:Heap)=>se_must false e G
 simp only [if_true,Bool.false_eq_true,if_false] at hm1 hm2
 simp only [List.length_append,List.length_cons,List.length_nil,List.append_assoc,List.cons_append,List.nil_append,Nat.zero_add,Nat.reduceAdd] at hbk
 rcases hsf with ⟨k1,k2,k3⟩ | ⟨i,k1,k2,k3,k4,k5,k6⟩
 ·rw [k1] at h1 ⊢
  simp only at h1 ⊢
  refine (zA1 fn28 rfl (by simp [Tryz.f28])).trans ?_
  simp -implicitDefEqProofs (maxSteps:=1000000) (disch:=first|rfl|omega|assumption) only [go_sem,ltT,ltF,leT,zA6 hL,hp.box,hs1,hs2,hbk,h1,y1,y2,y3]
  done
 ·rw [k1] at h1 ⊢
  simp only at h1 ⊢
  by_cases hi:i=0
  ·subst hi
   simp only [if_true,Int.natCast_zero,Int.sub_zero] at h1 ⊢
   have z:¬ (frm:Int)<s.last:=by omega
   refine (zA1 fn28 rfl (by simp [Tryz.f28])).trans ?_
   simp -implicitDefEqProofs (maxSteps:=1000000) (disch:=first|rfl|omega|assumption) only [go_sem,ltT,ltF,leT,zA6 hL,hp.box,hs1,hs2,hbk,h1,y1,y2,y3,zA6 hL1,hp1.box,z,hm2]
   done
  ·simp only [hi,if_false]
   have z:(frm:Int)-i<s.last:=by omega
   have e1:IntKind.i64.wrap ((frm:Int)-i+1)=s.last-i+1:=by rw [w64 (by omega) (by omega)];omega
   refine (zA1 fn28 rfl (by simp [Tryz.f28])).trans ?_
   simp -implicitDefEqProofs (maxSteps:=1000000) (disch:=first|rfl|omega|assumption) only [go_sem,ltT,ltF,leT,zA6 hL,hp.box,hs1,hs2,hbk,h1,y1,y2,y3,zA6 hL1,hp1.box,z,hm1,e1]
   done
theorem sd_Alln (l:Nat) (H:Heap):zA8 cfg0 zA0 true 24 [.ptr l 0] H none=some ⟨.ret (.tup []),H,none⟩:=by
 refine (zA1 fn24 rfl (by simp [Tryz.f24])).trans ?_
 simp -implicitDefEqProofs (maxSteps:=1000000) (disch:=first|rfl|omega|assumption) only [go_sem,ltT,ltF,leT,se_stopn]
 done
theorem sd_Alls (l:Nat) (e x:Int) (H:Heap) (h:H[l]? = some (.box (I x))):zA8 cfg0 zA0 true 24 [.ptr l 0] H (some (.iface 108 (.agg [I e]),false))=some ⟨.ret (.tup []),H.set l (.box (I e)),some (.iface 108 (.agg [I e]),true)⟩:=by
 refine (zA1 fn24 rfl (by simp [Tryz.f24])).trans ?_
 simp -implicitDefEqProofs (maxSteps:=1000000) (disch:=first|rfl|omega|assumption) only [go_sem,ltT,ltF,leT,se_stops l x e H h]
 done
theorem sd_Excn (l:Nat) (H:Heap):zA8 cfg0 zA0 true 37 [.ptr l 0] H none=some ⟨.ret (.tup []),H,none⟩:=by
 refine (zA1 fn37 rfl (by simp [Tryz.f37])).trans ?_
 simp -implicitDefEqProofs (maxSteps:=1000000) (disch:=first|rfl|omega|assumption) only [go_sem,ltT,ltF,leT,se_stopn]
 done
theorem sd_Latn (l:Nat) (H:Heap):zA8 cfg0 zA0 true 48 [.ptr l 0] H none=some ⟨.ret (.tup []),H,none⟩:=by
 refine (zA1 fn48 rfl (by simp [Tryz.f48])).trans ?_
 simp -implicitDefEqProofs (maxSteps:=1000000) (disch:=first|rfl|omega|assumption) only [go_sem,ltT,ltF,leT,se_stopn]
 done
theorem sd_Lats (l:Nat) (e x:Int) (H:Heap) (h:H[l]? = some (.box (I x))):zA8 cfg0 zA0 true 48 [.ptr l 0] H (some (.iface 108 (.agg [I e]),false))=some ⟨.ret (.tup []),H.set l (.box (I e)),some (.iface 108 (.agg [I e]),true)⟩:=by
 refine (zA1 fn48 rfl (by simp [Tryz.f48])).trans ?_
 simp -implicitDefEqProofs (maxSteps:=1000000) (disch:=first|rfl|omega|assumption) only [go_sem,ltT,ltF,leT,se_stops l x e H h]
 done
theorem se_Excess {vb vt:AV} {s:Stl} (ho:s.Ok) (hvb:SlOk H 6 vb (s.bs.map Blk.av)) (hvt:SlOk H 4 vt (s.ts.map Tch.av)) {k m:Nat} (hk:k<s.bs.length) (hm:(m:Int)≤s.last) :
  zA8 cfg0 zA0 false 13 [.agg [vb,I s.near,I s.last,vt],I k,I m] H none=some ⟨.ret (.tup [.agg [I (warmLo s k (s.bs.getD k ⟨0,0,0,0,0,0⟩) m),I (warmHi s k (s.bs.getD k ⟨0,0,0,0,0,0⟩) m)],I 0]),H,none⟩:=by
 have hk':True:=trivial
 have hs:=ho.wf
 obtain ⟨n1,n2⟩:=hs.last
 have hs1:=hvb.scal
 have hs2:=hvt.scal
 obtain ⟨b,hbe⟩:∃ b,s.bs.getD k ⟨0,0,0,0,0,0⟩=b:=⟨_,rfl⟩
 have hb:s.bs[((k:Int)).toNat]? = some b:=by rw [← hbe];simp [hk]
 rw [hbe]
 let G0:Heap:=[.box (.agg [vb,I s.near,I s.last,vt]),.box (I k),.box (I m),.box (.agg [I 0,I 0]),.box (I 0)]
 have hvb':=hvb.app G0
 have hvt':=hvt.app G0
 have hp:=pl4_ok (H:=H++G0) hvb' hvt'
 have w1:wi (k:Int) 0 ((s.bs.length:Int)-1)=true:=wi_iff.2 ⟨by omega,by omega⟩
 have w2:wi (m:Int) 0 s.last=true:=wi_iff.2 ⟨by omega,by omega⟩
 have hB:=se_isBlock hp (by have:=ho.n;omega) k
 have hMi:=se_isMinute hp m
 rw [w1] at hB
 rw [w2] at hMi
 have hE2:zA8 cfg0 zA0 false 38 [.ptr ((H++G0).length+3) 0,.ptr (H.length+1) 0,.ptr (H.length+2) 0] ((H++G0)++pl4 (H++G0).length vb vt s) none=some ⟨.ret (.bool true),(H++G0)++pl4 (H++G0).length vb vt s,none⟩:=by
  have c1:((H++G0)++pl4 (H++G0).length vb vt s)[H.length+1]? = some (.box (I k)):=by rw [List.append_assoc,zAe];rfl
  have c2:((H++G0)++pl4 (H++G0).length vb vt s)[H.length+2]? = some (.box (I m)):=by rw [List.append_assoc,zAe];rfl
  have l1:=(List.getElem?_eq_some_iff.1 c1).1
  have l2:=(List.getElem?_eq_some_iff.1 c2).1
  clear hp hvb' hvt'
  generalize (H++G0)++pl4 (H++G0).length vb vt s=K at *
  generalize (H++G0).length+3=lp at *
  refine (zA1 fn38 rfl (by simp [Tryz.f38])).trans ?_
  simp -implicitDefEqProofs (maxSteps:=1000000) (disch:=first|rfl|omega|assumption) only [go_sem,ltT,ltF,leT,zA6 l1,zA6 l2,c1,c2,hB,hMi]
  done
 have hO:=se_open ho hvb' hvt' (.func 38) (fun _=>rfl) [.ptr (H.length+1) 0,.ptr (H.length+2) 0] (fun N=>by simp [ltL,AV.lt,G0];omega) (fun bb=>by rw [callVL_func];exact hE2)
 have hH:=se_hull hs (by omega) hb (m:=m) (by omega) (Good.nil s) (spans_it hp k m)
 rw [set_lt hp.hM] at hH
 have hN:=fun G=>sd_Excn (H.length+4) G
 have e0:H.length+5+2=H.length+7:=rfl
 have hst:((H++G0)++pl4 (H++G0).length vb vt s).set ((H++G0).length+2) (.map 122 (memT s k b m [] b.n))=H++(G0++[.box (.agg [vb,I s.near,I s.last,vt]),.box (.agg [vb,I s.near,I s.last,vt]),.map 122 (memT s k b m [] b.n),.box (.agg [vb,I s.near,I s.last,vt,.map (H.length+7)])]):=by
  rw [zBs,List.append_assoc]
  simp [pl4,pl3,G0]
 rw [hst] at hH
 have hsp:=fun G:Heap=>se_spans (H.length+8) k m (H++G)
 simp only [G0,pl4,pl3,List.length_append,List.length_cons,List.length_nil,List.append_assoc,List.cons_append,List.nil_append,Nat.zero_add,Nat.add_assoc,Nat.reduceAdd] at hO hH hsp
 refine (zA1 fn13 rfl (by simp [Tryz.f13])).trans ?_
 simp -implicitDefEqProofs (maxSteps:=1000000) (disch:=first|rfl|omega|assumption) only [go_sem,ltT,ltF,leT,hs1,hs2,hO,hsp,hH,hN]
 done
def allR (s:Stl):Int→Nat→Nat→Option Int
 | acc,_,0=>some acc
 | acc,j,q+1=>match whenR s j (s.bs.getD j ⟨0,0,0,0,0,0⟩) with
  | none=>none
  | some w=>allR s (if acc<w then w else acc) (j+1) q
theorem whenR_bd {s:Stl} (hl:0≤s.last) {blk:Int} {b:Blk} {w:Int} (h:whenR s blk b=some w):0≤w∧w≤s.last:=by
 simp only [whenR] at h
 rcases stop_find (fun j=>!settl s blk b (s.last.toNat-j)) (s.last.toNat+1) 0 with ⟨k1,k2,k3⟩ | ⟨i,k1,k2,k3,k4,k5,k6⟩
 ·rw [k1] at h
  simp only [Option.some.injEq] at h
  omega
 ·rw [k1] at h
  simp only at h
  split at h
  ·cases h
  ·simp only [Option.some.injEq] at h
   omega
theorem al_l5 {vb vt:AV} {s:Stl} (ho:s.Ok) (hvb:SlOk H 6 vb (s.bs.map Blk.av)) (hvt:SlOk H 4 vt (s.ts.map Tch.av)) (r:Option Int) :
  ∀ (q j:Nat),j+q=s.bs.length→∀ (G:Heap),∀ (es:List (AV×AV)),∀ (acc:Int),Good s es→0≤acc∧acc≤s.last→allR s acc j q=r→∀ E:Env,E.get 2=I 0→E.get 3=.ptr (H.length+1) 0→E.get 4=.ptr (H.length+5) 0→E.get 5=I acc→E.get 15=I s.bs.length→E.get 16=I j →
  Option.map (zAi H.length) (zAh cfg0 zA0 ⟨7,none,false,H.length⟩ (zA7 Tryz.f7 5) ⟨E,[.fn (.func 24) [] [.ptr (H.length+1) 0]],H++(.box (.agg [vb,I s.near,I s.last,vt])::.box (I 0)::.box (.agg [vb,I s.near,I s.last,vt])::.box (.agg [vb,I s.near,I s.last,vt])::.map 122 es::.box (.agg [vb,I s.near,I s.last,vt,.map (H.length+4)])::G),none⟩)=some ⟨.ret (match r with | some w=>.tup [I w,I 0] | none=>.tup [I 0,I 4]),H,none⟩:=by
 intro q
 have hs:=ho.wf
 obtain ⟨n1,n2⟩:=hs.last
 have hs1:=hvb.scal
 have hs2:=hvt.scal
 have t1:=hvb.ltn 6
 have t2:=hvt.ltn 6
 have hN:=fun G=>sd_Alln (H.length+1) G
 have hD:=fun (e:Int) (a:AO) (G:Heap)=>sd_Alls (H.length+1) e 0 (H++(a::.box (I 0)::G)) (by rw [zAe 1];rfl)
 induction q with
 | zero =>
  intro j hj G es acc hg ha hr E g2 g3 g4 g5 g15 g16
  have hk':¬ (j:Int)<((s.bs.length:Nat):Int):=by omega
  simp only [allR] at hr
  subst hr
  simp only [zAb,zA4,zA7,zAa,zA3,↓reduceIte,Option.some.injEq,Nat.reduceEqDiff,reduceCtorEq,Tryz.f7]
  rw [zA2]
  have he:=hg.1
  simp -implicitDefEqProofs (maxSteps:=1000000) (disch:=first|rfl|omega|assumption) only [go_sem,g2,g3,g4,g5,g15,g16,ltT,ltF,leT,hk',hs1,hs2,t1,t2,he,hN]
  done
 | succ q ih =>
  intro j hj G es acc hg ha hr E g2 g3 g4 g5 g15 g16
  have hk':(j:Int)<((s.bs.length:Nat):Int):=by omega
  have hk2:j<s.bs.length:=by omega
  have he:=hg.1
  have h4:=ho.n
  simp only [allR] at hr
  obtain ⟨b,hbe⟩:∃ b,s.bs.getD j ⟨0,0,0,0,0,0⟩=b:=⟨_,rfl⟩
  have hb:s.bs[((j:Int)).toNat]? = some b:=by rw [← hbe];simp [hk2]
  rw [hbe] at hr
  have hp:PlOk (H++([.box (.agg [vb,I s.near,I s.last,vt]),.box (I 0),.box (.agg [vb,I s.near,I s.last,vt]),.box (.agg [vb,I s.near,I s.last,vt]),.map 122 es,.box (.agg [vb,I s.near,I s.last,vt,.map (H.length+4)])])) (H.length+5) (H.length+4) vb vt s es :=
   ⟨by rw [zAe];rfl,by rw [zAe];rfl,hvb.app _,hvt.app _⟩
  obtain ⟨es',hg',hw⟩:=se_when hs (by omega) hb hp hg
  rw [zBs] at hw
  simp only [List.set_cons_succ,List.set_cons_zero] at hw
  cases hwr:whenR s j b with
  | none =>
   rw [hwr] at hw hr
   simp only at hw hr
   subst hr
   simp only [zAb,zA4,zA7,zAa,zA3,↓reduceIte,Option.some.injEq,Nat.reduceEqDiff,reduceCtorEq,Tryz.f7]
   rw [zA2]
   simp -implicitDefEqProofs (maxSteps:=1000000) (disch:=first|rfl|omega|assumption) only [go_sem,g2,g3,g4,g5,g15,g16,ltT,ltF,leT,hk',hs1,hs2,t1,t2,he,hw,hD]
   done
  | some x =>
   rw [hwr] at hw hr
   simp only at hw hr
   have hx:=whenR_bd (by omega) hwr
   obtain ⟨a',ha'⟩:∃ a',(if acc<x then x else acc)=a':=⟨_,rfl⟩
   rw [ha'] at hr
   have ha2:0≤a'∧a'≤s.last:=by rw [← ha'];split<;>omega
   have key:=ih (j+1) (by omega) [] es' a' hg' ha2 hr
   simp only [zAb,zA4,zA7,zAa,zA3,↓reduceIte,Option.some.injEq,Nat.reduceEqDiff,reduceCtorEq,Tryz.f7]
   rw [zA2]
   simp -implicitDefEqProofs (maxSteps:=1000000) (disch:=first|rfl|omega|assumption) only [go_sem,g2,g3,g4,g5,g15,g16,ltT,ltF,leT,hk',hs1,hs2,t1,t2,he,hw,ha']
   exact key _ (by rfl) (by rfl) (by rfl) (by rfl) (by rfl) (by rfl)
theorem se_All {vb vt:AV} {s:Stl} (ho:s.Ok) (hvb:SlOk H 6 vb (s.bs.map Blk.av)) (hvt:SlOk H 4 vt (s.ts.map Tch.av)) :
  zA8 cfg0 zA0 false 7 [.agg [vb,I s.near,I s.last,vt]] H none=some ⟨.ret (match allR s 0 0 s.bs.length with | some w=>.tup [I w,I 0] | none=>.tup [I 0,I 4]),H,none⟩:=by
 have hk':True:=trivial
 have hs:=ho.wf
 obtain ⟨n1,n2⟩:=hs.last
 have hs1:=hvb.scal
 have hs2:=hvt.scal
 have l1:=hvb.len
 rw [List.length_map] at l1
 have hvb':=hvb.app [.box (.agg [vb,I s.near,I s.last,vt]),.box (I 0)]
 have hvt':=hvt.app [.box (.agg [vb,I s.near,I s.last,vt]),.box (I 0)]
 have hO:=se_open ho hvb' hvt' (.func 27) (fun _=>rfl) [] (fun N=>rfl) (fun bb=>by
  rw [callVL_func]
  change zA8 cfg0 zA0 false 27 [_] _ none=_
  refine (zA1 fn27 rfl (by simp [Tryz.f27])).trans ?_
  simp -implicitDefEqProofs (maxSteps:=1000000) (disch:=first|rfl|omega|assumption) only [go_sem,ltT,ltF,leT]
  done)
 have key:=al_l5 ho hvb hvt _ s.bs.length 0 (by omega) [] [] 0 (Good.nil s) (by omega) rfl
 simp only [pl4,pl3,List.length_append,List.length_cons,List.length_nil,List.append_assoc,List.cons_append,List.nil_append,Nat.zero_add,Nat.add_assoc,Nat.reduceAdd] at hO
 refine (zA1 fn7 rfl (by simp [Tryz.f7])).trans ?_
 simp -implicitDefEqProofs (maxSteps:=1000000) (disch:=first|rfl|omega|assumption) only [go_sem,ltT,ltF,leT,hs1,hs2,hO,l1]
 exact key _ (by rfl) (by rfl) (by rfl) (by rfl) (by rfl) (by rfl)
theorem copy_gsl {C:Cfg} {H:Heap} {l n sz:Nat} {xs ys:List AV} {v:AV} {tys:List TypeId} {e:TypeId} {te:Ty} (he:sliceElem C tys=some e) (ht:C.ty e=some te) (hl:H[l]? = some (.grow sz xs)) (hn:xs.length=n) (hs:sz=te.size)
  (hv:elems H v=some ys) (hy:xs.length=ys.length) (hlt:ltL 0 ys=true) (hok:zB9 te.size te.agg ys=true):evCopy C H tys (.gsl l n) v=some (I ys.length,H.set l (.grow sz ys)):=by
 simp only [evCopy,he,ht,hl,hv,hlt,hok,Bool.true_and]
 rw [if_pos]
 simp only [decide_eq_true_eq]
 exact ⟨hs,hn,hy⟩
def Stl.touch (s:Stl) (b m h:Int):Stl:={ s with ts:=s.ts++[⟨b,m,h,h⟩] }
theorem se_touched {L M:Nat} {vb vt:AV} {s:Stl} {es:List (AV×AV)} (hp:PlOk H L M vb vt s es) (hl:s.ts.length≤6) (b m h:Int) :
  zA8 cfg0 zA0 false 54 [.ptr L 0,I b,I m,I h] H none=some ⟨.ret (.ptr (H.length+4) 0),H++[.box (.agg [vb,I s.near,I s.last,.gsl (H.length+1) (s.ts.length+1)]),.grow 4 ((s.touch b m h).ts.map Tch.av),.box (.agg [vb,I s.near,I s.last,.gsl (H.length+1) (s.ts.length+1)]),.map 122 [],.box (.agg [vb,I s.near,I s.last,.gsl (H.length+1) (s.ts.length+1),.map (H.length+3)])],none⟩:=by
 have hk':True:=trivial
 have hL:=hp.hL
 have hs1:=hp.bs.scal
 have hs2:=hp.ts.scal
 have l2:=hp.ts.len
 rw [List.length_map] at l2
 have hc2:isMapL [vt]=false:=by
  have:=hp.ts.1
  cases vt<;>first | rfl | exact absurd this (by simp)
 have e1:IntKind.i64.wrap ((s.ts.length:Int)+1)=(s.ts.length:Int)+1:=w64 (by omega) (by omega)
 have hd1:0≤(s.ts.length:Int):=by omega
 have hd2:(s.ts.length:Int)≤(s.ts.length:Int)+1:=by omega
 have hd3:(s.ts.length:Int)+1≤1048576:=by omega
 have hcp:evCopy cfg0 (H++[.box (.agg [vb,I s.near,I s.last,.gsl (H.length+1) s.ts.length]),.grow 4 (List.replicate s.ts.length (.agg [I 0,I 0,I 0,I 0]))]) [23,23] (.gsl (H.length+1) s.ts.length) vt =
   some (I s.ts.length,H++[.box (.agg [vb,I s.near,I s.last,.gsl (H.length+1) s.ts.length]),.grow 4 (s.ts.map Tch.av)]):=by
  rw [copy_gsl (e:=53) (xs:=List.replicate s.ts.length (.agg [I 0,I 0,I 0,I 0])) (sz:=4) rfl ty53 (by simp [zAe]) (by simp) rfl (hp.ts.app _).elems (by simp) (ltL_map (fun _=>rfl) _) (elemsOk_map (fun _=>rfl) _),zBs]
  simp
 have hadd:zBo (H++[.box (.agg [vb,I s.near,I s.last,.gsl (H.length+1) s.ts.length]),.grow 4 (s.ts.map Tch.av)]) 4 true (.gsl (H.length+1) s.ts.length) [.agg [I b,I m,I h,I h]] =
   some (.gsl (H.length+1) (s.ts.length+1),H++[.box (.agg [vb,I s.near,I s.last,.gsl (H.length+1) s.ts.length]),.grow 4 ((s.touch b m h).ts.map Tch.av)]):=by
  rw [add_gsl (xs:=s.ts.map Tch.av) (by simp [zAe]) (by simp) rfl rfl (by simp;omega),zBs]
  simp only [Stl.touch,List.map_append]
  rfl
 have hon:=fun G:Heap=>se_on (s:=s.touch b m h) (vb:=vb) (vt:=.gsl (H.length+1) (s.ts.length+1)) hs1 rfl (H++G)
 simp only [pl3,List.length_append,List.length_cons,List.length_nil,List.append_assoc,List.cons_append,List.nil_append,Nat.zero_add,Nat.add_assoc,Nat.reduceAdd] at hon
 have hn1:(s.touch b m h).near=s.near:=rfl
 have hn2:(s.touch b m h).last=s.last:=rfl
 simp only [hn1,hn2] at hon
 refine (zA1 fn54 rfl (by simp [Tryz.f54])).trans ?_
 simp -implicitDefEqProofs (maxSteps:=1000000) (disch:=first|rfl|omega|assumption) only [go_sem,ltT,ltF,leT,zA6 hL,hp.box,hs1,hs2]
 rw [zAg];rotate_left;kernel_rfl
 simp -implicitDefEqProofs (maxSteps:=1000000) (disch:=first|rfl|omega|assumption) only [go_sem,ltT,ltF,leT,zA6 hL,hp.box,hs1,hs2,l2,hc2,e1,hd1,hd2,hd3,Int.toNat_natCast]
 rw [zAg];rotate_left;kernel_rfl
 simp -implicitDefEqProofs (maxSteps:=1000000) (disch:=first|rfl|omega|assumption) only [go_sem,ltT,ltF,leT,zA6 hL,hp.box,hs1,hs2,hcp,hadd,hon]
 done
theorem touch_wf {s:Stl} (hs:s.Wf) (hl:s.ts.length≤6) {b m h:Int} (hh : -100≤h∧h≤100):(s.touch b m h).Wf:=by
 refine ⟨hs.bs,fun t ht=>?_,by simp [Stl.touch];omega,hs.near,hs.last,hs.blen⟩
 simp only [Stl.touch,List.mem_append,List.mem_singleton] at ht
 rcases ht with ht | rfl
 ·exact hs.ts t ht
 ·exact ⟨hh.1,Int.le_refl _,hh.2⟩
theorem se_lat3 {L M A B D F:Nat} {vb vt:AV} {s:Stl} {es:List (AV×AV)} (hs:s.Wf) (hl:s.ts.length≤6) {blk m heat:Int} {by':Nat} (hby:by'≤60) (hh : -100≤heat∧heat≤100) {b:Blk} (h0:0≤blk) (hb:s.bs[blk.toNat]? = some b) (hp:PlOk H L M vb vt s es)
  (hA:H[A]? = some (.box (.ptr L 0))) (hB:H[B]? = some (.box (I blk))) (hD:H[D]? = some (.box (I heat))) (hF:H[F]? = some (.box (I by'))) :
  zA8 cfg0 zA0 false 53 [I m,.ptr A 0,.ptr B 0,.ptr D 0,.ptr F 0] H none=some ⟨.ret (.bool (settl (s.touch blk m heat) blk b by')),H,none⟩:=by
 have hk':True:=trivial
 have Al:=(List.getElem?_eq_some_iff.1 hA).1
 have Bl:=(List.getElem?_eq_some_iff.1 hB).1
 have Dl:=(List.getElem?_eq_some_iff.1 hD).1
 have Fl:=(List.getElem?_eq_some_iff.1 hF).1
 have hT:=se_touched hp hl blk m heat
 have hw:=touch_wf hs hl hh (b:=blk) (m:=m)
 have hp5:PlOk (H++[.box (.agg [vb,I s.near,I s.last,.gsl (H.length+1) (s.ts.length+1)]),.grow 4 ((s.touch blk m heat).ts.map Tch.av),.box (.agg [vb,I s.near,I s.last,.gsl (H.length+1) (s.ts.length+1)]),.map 122 [],.box (.agg [vb,I s.near,I s.last,.gsl (H.length+1) (s.ts.length+1),.map (H.length+3)])]) (H.length+4) (H.length+3) vb (.gsl (H.length+1) (s.ts.length+1)) (s.touch blk m heat) [] :=
  ⟨by rw [zAe 4];rfl,by rw [zAe 3];rfl,hp.bs.app _,⟨⟨by rw [zAe 1];rfl,by simp [Stl.touch]⟩,fun x hx=>by obtain ⟨t,_,rfl⟩:=List.mem_map.1 hx;rfl⟩⟩
 have hS:=se_settled hw h0 (b:=b) hb (m:=by') hby hp5 (Good.nil _)
 rw [zBs] at hS
 simp only [List.set_cons_succ,List.set_cons_zero] at hS
 generalize settl (s.touch blk m heat) blk b by'=r at *
 refine (zA1 fn53 rfl (by simp [Tryz.f53])).trans ?_
 simp -implicitDefEqProofs (maxSteps:=1000000) (disch:=first|rfl|omega|assumption) only [go_sem,ltT,ltF,leT]
 rw [zAg];rotate_left;kernel_rfl
 simp -implicitDefEqProofs (maxSteps:=1000000) (disch:=first|rfl|omega|assumption) only [go_sem,ltT,ltF,leT,zA6 Al,zA6 Bl,zA6 Dl,zA6 Fl,hA,hB,hD,hF,hT,hS]
 done
theorem se_Latest {vb vt:AV} {s:Stl} (ho:s.Ok) (hl5:s.ts.length≤5) (hvb:SlOk H 6 vb (s.bs.map Blk.av)) (hvt:SlOk H 4 vt (s.ts.map Tch.av)) {k n:Nat} (hk:k<s.bs.length) {heat:Int} (hh : -100≤heat∧heat≤100) (hn:(n:Int)≤s.last) :
  zA8 cfg0 zA0 false 15 [.agg [vb,I s.near,I s.last,vt],I k,I heat,I n] H none=some ⟨.ret (match findN (fun j=>settl (s.touch k ((n:Int)-j) heat) k (s.bs.getD k ⟨0,0,0,0,0,0⟩) n) 0 (n+1) with | some i=>.tup [I ((n:Int)-i),I 0] | none=>.tup [I 0,I 4]),H,none⟩:=by
 have hk':True:=trivial
 have hs:=ho.wf
 obtain ⟨n1,n2⟩:=hs.last
 have hs1:=hvb.scal
 have hs2:=hvt.scal
 obtain ⟨b,hbe⟩:∃ b,s.bs.getD k ⟨0,0,0,0,0,0⟩=b:=⟨_,rfl⟩
 have hb:s.bs[((k:Int)).toNat]? = some b:=by rw [← hbe];simp [hk]
 rw [hbe]
 let G0:Heap:=[.box (.agg [vb,I s.near,I s.last,vt]),.box (I k),.box (I heat),.box (I n),.box (I 0)]
 have hvb':=hvb.app G0
 have hvt':=hvt.app G0
 have hp:=pl4_ok (H:=H++G0) hvb' hvt'
 have w1:wi (k:Int) 0 ((s.bs.length:Int)-1)=true:=wi_iff.2 ⟨by omega,by omega⟩
 have w2:wi (n:Int) 0 s.last=true:=wi_iff.2 ⟨by omega,by omega⟩
 have w3:wi heat (-100) 100=true:=wi_iff.2 hh
 have hB:=se_isBlock hp (by have:=ho.n;omega) k
 have hMi:=se_isMinute hp n
 have hWa:=fun G:Heap=>se_isWarm heat G
 rw [w1] at hB
 rw [w2] at hMi
 simp only [w3] at hWa
 have hL2:zA8 cfg0 zA0 false 49 [.ptr ((H++G0).length+3) 0,.ptr (H.length+1) 0,.ptr (H.length+2) 0,.ptr (H.length+3) 0] ((H++G0)++pl4 (H++G0).length vb vt s) none=some ⟨.ret (.bool true),(H++G0)++pl4 (H++G0).length vb vt s,none⟩:=by
  have c1:((H++G0)++pl4 (H++G0).length vb vt s)[H.length+1]? = some (.box (I k)):=by rw [List.append_assoc,zAe];rfl
  have c2:((H++G0)++pl4 (H++G0).length vb vt s)[H.length+2]? = some (.box (I heat)):=by rw [List.append_assoc,zAe];rfl
  have c3:((H++G0)++pl4 (H++G0).length vb vt s)[H.length+3]? = some (.box (I n)):=by rw [List.append_assoc,zAe];rfl
  have l1:=(List.getElem?_eq_some_iff.1 c1).1
  have l2:=(List.getElem?_eq_some_iff.1 c2).1
  have l3:=(List.getElem?_eq_some_iff.1 c3).1
  clear hp hvb' hvt'
  generalize (H++G0)++pl4 (H++G0).length vb vt s=K at *
  generalize (H++G0).length+3=lp at *
  refine (zA1 fn49 rfl (by simp [Tryz.f49])).trans ?_
  simp -implicitDefEqProofs (maxSteps:=1000000) (disch:=first|rfl|omega|assumption) only [go_sem,ltT,ltF,leT,zA6 l1,zA6 l2,zA6 l3,c1,c2,c3,hB,hMi,hWa]
  done
 have hO:=se_open ho hvb' hvt' (.func 49) (fun _=>rfl) [.ptr (H.length+1) 0,.ptr (H.length+2) 0,.ptr (H.length+3) 0] (fun N=>by simp [ltL,AV.lt,G0];omega) (fun bb=>by rw [callVL_func];exact hL2)
 let K:Heap:=H++(G0++(pl4 (H.length+5) vb vt s++[.box (.ptr (H.length+8) 0),.box (I n)]))
 have hKl:K.length=H.length+11:=by simp [K,G0,pl4,pl3]
 have hpK:∀ G:Heap,PlOk (K++G) (H.length+8) (H.length+7) vb vt s []:=fun G=>by
  have:=(hp.app [.box (.ptr (H.length+8) 0),.box (I n)]).app G
  simpa [K,G0,pl4,pl3,List.append_assoc] using this
 have g9:∀ G:Heap,(K++G)[H.length+9]? = some (.box (.ptr (H.length+8) 0)):=fun G=>by simp only [K];rw [List.append_assoc,zAe];rfl
 have g1:∀ G:Heap,(K++G)[H.length+1]? = some (.box (I k)):=fun G=>by simp only [K];rw [List.append_assoc,zAe];rfl
 have g2:∀ G:Heap,(K++G)[H.length+2]? = some (.box (I heat)):=fun G=>by simp only [K];rw [List.append_assoc,zAe];rfl
 have g3:∀ G:Heap,(K++G)[H.length+3]? = some (.box (I n)):=fun G=>by simp only [K];rw [List.append_assoc,zAe];rfl
 obtain ⟨-,-,hF⟩:=se_first (σ:=Unit) (fun _=>K) (fun _=>True) (H.length+11) (H.length+10) n (.func 53) [.ptr (H.length+9) 0,.ptr (H.length+1) 0,.ptr (H.length+2) 0,.ptr (H.length+3) 0] (fun j=>settl (s.touch k ((n:Int)-j) heat) k b n)
  (fun _=>hKl) (fun _=>by simp only [K];rw [zAe];rfl) (by omega) (fun j x E hj hx=>⟨(),trivial,fun bb=>by
   rw [callVL_func]
   exact se_lat3 hs (by omega) (by omega) hh (by omega) hb (hpK E) (g9 E) (g1 E) (g2 E) (g3 E)⟩) () trivial
 have hN:=fun G=>sd_Latn (H.length+4) G
 have hD:=fun (e:Int) (a b c d:AO) (G:Heap)=>sd_Lats (H.length+4) e 0 (H++(a::b::c::d::.box (I 0)::G)) (by rw [zAe 4];rfl)
 have hbk:=fun G:Heap=>se_back (n:Int) (H++G)
 have hm1:=fun (e:Int) (G:Heap)=>se_must true e G
 have hm2:=fun (e:Int) (G:Heap)=>se_must false e G
 simp only [if_true,Bool.false_eq_true,if_false] at hm1 hm2
 simp only [K,G0,pl4,pl3,List.length_append,List.length_cons,List.length_nil,List.append_assoc,List.cons_append,List.nil_append,Nat.zero_add,Nat.add_assoc,Nat.reduceAdd] at hO hF hbk
 cases hfd:findN (fun j=>settl (s.touch k ((n:Int)-j) heat) k b n) 0 (n+1) with
 | none =>
  rw [hfd] at hF
  simp only at hF ⊢
  refine (zA1 fn15 rfl (by simp [Tryz.f15])).trans ?_
  simp -implicitDefEqProofs (maxSteps:=1000000) (disch:=first|rfl|omega|assumption) only [go_sem,ltT,ltF,leT,hs1,hs2,hO,hbk,hF,hm2,hD]
  done
 | some i =>
  rw [hfd] at hF
  simp only at hF ⊢
  refine (zA1 fn15 rfl (by simp [Tryz.f15])).trans ?_
  simp -implicitDefEqProofs (maxSteps:=1000000) (disch:=first|rfl|omega|assumption) only [go_sem,ltT,ltF,leT,hs1,hs2,hO,hbk,hF,hm1,hN]
  done
structure Fd where
 many:Nat
 least:Nat
 each:Nat
 some:Nat
deriving DecidableEq
def fdA (f:Fd):AV:=.agg [I f.many,U f.least,U f.each,U f.some]
structure Lg where
 lo:Int
 hi:Int
 many:Nat
deriving DecidableEq
def lgA (l:Lg):AV:=.agg [I l.lo,I l.hi,I l.many]
def lesB (x y:Nat):Bool:=decide (pop x<pop y)||(decide (pop x=pop y)&&decide (x<y))
def mnS (x y:Nat):Nat:=if lesB y x then y else x
def Fd.join (f g:Fd):Fd:=⟨f.many+g.many,mnS f.least g.least,f.each &&& g.each,f.some ||| g.some⟩
def Lg.wit (l:Lg) (b film:Int×Int):Lg:=⟨(if 0<l.many then l.lo+film.1 else l.lo)+b.1,(if 0<l.many then l.hi+film.2 else l.hi)+b.2,l.many+1⟩
def Fd.wit (f:Fd) (i:Nat):Fd:=⟨f.many,f.least ||| 2^i,f.each ||| 2^i,f.some ||| 2^i⟩
theorem st_many {x:Nat} (hx:x<1024):zA8 cfg0 zA0 false 94 [U x] H none=some ⟨.ret (I (pop x)),H,none⟩:=by
 have h1:=fun G:Heap=>ones (H:=G) hx
 refine (zA1 fn94 rfl (by simp [Tryz.f94])).trans ?_
 simp -implicitDefEqProofs (maxSteps:=1000000) (disch:=first|rfl|omega|assumption) only [go_sem,ltT,ltF,leT,h1]
 done
theorem st_with {x i:Nat} (hx:x<1024) (hi:i≤20):zA8 cfg0 zA0 false 93 [U x,I i] H none=some ⟨.ret (U (x ||| 2^i)),H,none⟩:=by
 have h1:=shlU (k:=i) (by omega)
 have hp:2^i<2^63:=two_pow_lt (by omega)
 have h2:bitsOp .or .u64 (x:Int) ((2^i:Nat):Int)=some ((x ||| 2^i:Nat):Int):=bitsOr (by omega) hp
 refine (zA1 fn93 rfl (by simp [Tryz.f93])).trans ?_
 simp -implicitDefEqProofs (maxSteps:=1000000) (disch:=first|rfl|omega|assumption) only [go_sem,ltT,ltF,leT,h1,h2]
 done
theorem st_lesser {x y:Nat} (hx:x<1024) (hy:y<1024):zA8 cfg0 zA0 false 90 [U x,U y] H none=some ⟨.ret (.bool (lesB x y)),H,none⟩:=by
 have h1:=fun G:Heap=>st_many (H:=G) hx
 have h2:=fun G:Heap=>st_many (H:=G) hy
 simp only [lesB]
 by_cases c1:pop x<pop y
 ·skip
  refine (zA1 fn90 rfl (by simp [Tryz.f90])).trans ?_
  simp -implicitDefEqProofs (maxSteps:=1000000) (disch:=first|rfl|omega|assumption) only [go_sem,ltT,ltF,leT,h1,h2,c1]
  done
 ·by_cases c2:pop x=pop y
  ·have c3:((pop x:Int)==(pop y:Int))=true:=by simp [c2]
   by_cases c4:x<y
   ·skip
    refine (zA1 fn90 rfl (by simp [Tryz.f90])).trans ?_
    simp -implicitDefEqProofs (maxSteps:=1000000) (disch:=first|rfl|omega|assumption) only [go_sem,ltT,ltF,leT,h1,h2,c1,c2,c3,c4]
    done
   ·skip
    refine (zA1 fn90 rfl (by simp [Tryz.f90])).trans ?_
    simp -implicitDefEqProofs (maxSteps:=1000000) (disch:=first|rfl|omega|assumption) only [go_sem,ltT,ltF,leT,h1,h2,c1,c2,c3,c4]
    done
  ·have c3:((pop x:Int)==(pop y:Int))=false:=by simp;omega
   skip
   refine (zA1 fn90 rfl (by simp [Tryz.f90])).trans ?_
   simp -implicitDefEqProofs (maxSteps:=1000000) (disch:=first|rfl|omega|assumption) only [go_sem,ltT,ltF,leT,h1,h2,c1,c2,c3]
   done
theorem lg_with {l:Lg} {b film:Int×Int} (hl:0≤l.lo∧l.lo≤10000∧0≤l.hi∧l.hi≤10000∧l.many≤100) (hb:0≤b.1∧b.1≤10000∧0≤b.2∧b.2≤10000) (hf:0≤film.1∧film.1≤10000∧0≤film.2∧film.2≤10000) :
  zA8 cfg0 zA0 false 92 [lgA l,spA b,spA film] H none=some ⟨.ret (lgA (l.wit b film)),H,none⟩:=by
 obtain ⟨lo,hi,many⟩:=l
 obtain ⟨b1,b2⟩:=b
 obtain ⟨f1,f2⟩:=film
 simp only at hl hb hf
 simp only [lgA,spA,Lg.wit]
 by_cases c:0<many
 ·have c1:(0:Int)<many:=by omega
  skip
  refine (zA1 fn92 rfl (by simp [Tryz.f92])).trans ?_
  simp -implicitDefEqProofs (maxSteps:=1000000) (disch:=first|rfl|omega|assumption) only [go_sem,ltT,ltF,leT,c,c1]
  rw [zAg];rotate_left;kernel_rfl
  simp -implicitDefEqProofs (maxSteps:=1000000) (disch:=first|rfl|omega|assumption) only [go_sem,ltT,ltF,leT,c,c1]
  rfl
 ·have c1:¬ (0:Int)<many:=by omega
  skip
  refine (zA1 fn92 rfl (by simp [Tryz.f92])).trans ?_
  simp -implicitDefEqProofs (maxSteps:=1000000) (disch:=first|rfl|omega|assumption) only [go_sem,ltT,ltF,leT,c,c1]
  rfl
theorem st_is {l:Lg} {w:Int×Int}:zA8 cfg0 zA0 false 114 [.agg [I w.1,I w.2],lgA l] H none=some ⟨.ret (.bool (decide (w.1≤l.lo)&&decide (l.hi≤w.2))),H,none⟩:=by
 obtain ⟨lo,hi,many⟩:=l
 simp only [lgA]
 by_cases c:w.1≤lo
 ·skip
  refine (zA1 fn114 rfl (by simp [Tryz.f114])).trans ?_
  simp -implicitDefEqProofs (maxSteps:=1000000) (disch:=first|rfl|omega|assumption) only [go_sem,ltT,ltF,leT,c]
  done
 ·skip
  refine (zA1 fn114 rfl (by simp [Tryz.f114])).trans ?_
  simp -implicitDefEqProofs (maxSteps:=1000000) (disch:=first|rfl|omega|assumption) only [go_sem,ltT,ltF,leT,c]
  done
def joinL:List Fd→Fd
 | []=>⟨0,0,0,0⟩
 | x::r=>r.foldl Fd.join x
theorem joinL_snoc:∀ (l:List Fd) (x:Fd),l≠[]→joinL (l++[x])=(joinL l).join x
 | [],x,h=>absurd rfl h
 | y::r,x,_=>by simp only [List.cons_append,joinL,List.foldl_append,List.foldl_cons,List.foldl_nil]
def Fd.Ok (f:Fd):Prop:=f.least<1024∧f.each<1024∧f.some<1024
def manyS (l:List Fd):Nat:=(l.map (·.many)).sum
theorem joinL_ok {l:List Fd} (h:∀ f∈l,f.Ok):(joinL l).Ok∧(joinL l).many=manyS l:=by
 have key:∀ (r:List Fd) (x:Fd),x.Ok→(∀ f∈r,f.Ok)→(r.foldl Fd.join x).Ok∧(r.foldl Fd.join x).many=x.many+manyS r:=by
  intro r
  induction r with
  | nil=>intro x hx _;exact ⟨hx,by simp [manyS]⟩
  | cons y r ih =>
   intro x hx hr
   have hy:=hr y (by simp)
   have hj:(x.join y).Ok:=by
    refine ⟨?_,?_,?_⟩
    ·simp only [Fd.join,mnS]
     split
     ·exact hy.1
     ·exact hx.1
    ·exact Nat.lt_of_le_of_lt Nat.and_le_left hx.2.1
    ·exact Nat.or_lt_two_pow (n:=10) hx.2.2 hy.2.2
   obtain ⟨h1,h2⟩:=ih (x.join y) hj (fun f hf=>hr f (by simp [hf]))
   refine ⟨h1,?_⟩
   simp only [List.foldl_cons,h2,manyS,List.map_cons,List.sum_cons]
   simp only [Fd.join]
   omega
 cases l with
 | nil=>exact ⟨⟨by decide,by decide,by decide⟩,rfl⟩
 | cons x r =>
  obtain ⟨h1,h2⟩:=key r x (h x (by simp)) (fun f hf=>h f (by simp [hf]))
  exact ⟨h1,by simp only [joinL,h2,manyS,List.map_cons,List.sum_cons]⟩
theorem manyS_take:∀ (l:List Fd) (j:Nat),manyS (l.take j)≤manyS l
 | [],j=>by simp [manyS]
 | x::r,0=>by simp [manyS]
 | x::r,j+1=>by
  have:=manyS_take r j
  simp only [manyS,List.take_succ_cons,List.map_cons,List.sum_cons] at this ⊢
  omega
theorem take_getD {α:Type} {d:α} {l:List α} {j:Nat} (hj:j<l.length):l.take (j+1)=l.take j++[l.getD j d]:=by
 rw [List.take_add_one,List.getD_eq_getElem?_getD,List.getElem?_eq_getElem hj]
 rfl
theorem jn_loop {fs:List Fd} {v:AV} (hv:SlOk H 4 v (fs.map fdA)) (hl:fs.length≤100000) (hok:∀ f∈fs,f.Ok) (hm:manyS fs≤100000) :
  ∀ (q j:Nat),j+q=fs.length→∀ (G:Heap),∀ E:Env,E.get 2=.ptr H.length 0→E.get 5=v→E.get 6=I fs.length→E.get 7=I j →
  Option.map (zAi H.length) (zAh cfg0 zA0 ⟨86,none,false,H.length⟩ (zA7 Tryz.f86 2) ⟨E,[],H++(.box (fdA (joinL (fs.take j)))::G),none⟩)=some ⟨.ret (fdA (joinL fs)),H,none⟩:=by
 intro q
 obtain ⟨a1,a2,a3,a4,a5⟩:=hv.fF (d:=(⟨0,0,0,0⟩:Fd))
 have t1:=hv.ltn 1
 induction q with
 | zero =>
  intro j hj G E g2 g5 g6 g7
  have hk':¬ (j:Int)<((fs.length:Nat):Int):=by omega
  have ht:fs.take j=fs:=List.take_of_length_le (by omega)
  rw [ht]
  simp only [fdA]
  simp only [zAb,zA4,zA7,zAa,zA3,↓reduceIte,Option.some.injEq,Nat.reduceEqDiff,reduceCtorEq,Tryz.f86]
  rw [zA2]
  simp -implicitDefEqProofs (maxSteps:=1000000) (disch:=first|rfl|omega|assumption) only [go_sem,g2,g5,g6,g7,ltT,ltF,leT,hk',t1]
  done
 | succ q ih =>
  intro j hj G E g2 g5 g6 g7
  have hk':(j:Int)<((fs.length:Nat):Int):=by omega
  have hk2:j<fs.length:=by omega
  obtain ⟨x,hxe⟩:∃ x,fs.getD j ⟨0,0,0,0⟩=x:=⟨_,rfl⟩
  have htk:=take_getD (d:=(⟨0,0,0,0⟩:Fd)) (show j<fs.length by omega)
  rw [hxe] at htk
  have hxm:x∈fs:=by rw [← hxe,List.getD_eq_getElem?_getD,List.getElem?_eq_getElem (show j<fs.length by omega)];exact List.getElem_mem _
  have hx:=hok x hxm
  obtain ⟨hjo,hjm⟩:=joinL_ok (l:=fs.take j) (fun f hf=>hok f (List.mem_of_mem_take hf))
  have hmt:=manyS_take fs j
  have hmt1:=manyS_take fs (j+1)
  have hxm2:manyS (fs.take (j+1))=manyS (fs.take j)+x.many:=by rw [htk];simp [manyS]
  by_cases j0:j=0
  ·have e1:joinL (fs.take (j+1))=x:=by rw [htk,j0];rfl
   have e0:joinL (fs.take j)=⟨0,0,0,0⟩:=by rw [j0];rfl
   have hj0:((j:Int)==0)=true:=by simp [j0]
   have hi:=fun G=>ih (j+1) (by omega) G
   simp only [e1,fdA] at hi
   rw [e0]
   simp only [fdA]
   simp only [zAb,zA4,zA7,zAa,zA3,↓reduceIte,Option.some.injEq,Nat.reduceEqDiff,reduceCtorEq,Tryz.f86]
   rw [zA2]
   simp -implicitDefEqProofs (maxSteps:=1000000) (disch:=first|rfl|omega|assumption) only [go_sem,g2,g5,g6,g7,ltT,ltF,leT,hk',t1,a1,a2,a3,a4,a5,hxe,fdA,hj0]
   exact hi _ _ (by rfl) (by rfl) (by rfl) (by rfl)
  ·have e1:joinL (fs.take (j+1))=(joinL (fs.take j)).join x:=by rw [htk];exact joinL_snoc _ _ (by intro h;have:=congrArg List.length h;rw [List.length_take,List.length_nil] at this;omega)
   have hi:=fun G=>ih (j+1) (by omega) G
   simp only [e1] at hi
   obtain ⟨y,hye⟩:∃ y,joinL (fs.take j)=y:=⟨_,rfl⟩
   simp only [hye] at hi hjo hjm ⊢
   obtain ⟨ym,yl,ye,ys⟩:=y
   obtain ⟨xm,xl,xe,xs⟩:=x
   simp only [Fd.Ok] at hx hjo
   simp only at hjm hxm2
   have b1:bitsOp .and .u64 (ye:Int) (xe:Int)=some ((ye &&& xe:Nat):Int):=bitsAnd (by omega) (by omega)
   have b2:bitsOp .or .u64 (ys:Int) (xs:Int)=some ((ys ||| xs:Nat):Int):=bitsOr (by omega) (by omega)
   have hj0:((j:Int)==0)=false:=by simp;omega
   have hle:=fun G:Heap=>st_lesser (H:=G) hx.1 hjo.1
   simp only [fdA,Fd.join,mnS] at hi ⊢
   cases hb:lesB xl yl
   ·rw [hb] at hle
    simp only [hb,Bool.false_eq_true,if_false] at hi
    simp only [zAb,zA4,zA7,zAa,zA3,↓reduceIte,Option.some.injEq,Nat.reduceEqDiff,reduceCtorEq,Tryz.f86]
    rw [zA2]
    simp -implicitDefEqProofs (maxSteps:=1000000) (disch:=first|rfl|omega|assumption) only [go_sem,g2,g5,g6,g7,ltT,ltF,leT,hk',t1,a1,a2,a3,a4,a5,hxe,fdA,hj0,b1,b2,hle]
    rw [zAg];rotate_left;kernel_rfl
    simp -implicitDefEqProofs (maxSteps:=1000000) (disch:=first|rfl|omega|assumption) only [go_sem,g2,g5,g6,g7,ltT,ltF,leT,hk',t1,a1,a2,a3,a4,a5,hxe,fdA,hj0,b1,b2,hle]
    exact hi _ _ (by rfl) (by rfl) (by rfl) (by rfl)
   ·rw [hb] at hle
    simp only [hb,if_true] at hi
    simp only [zAb,zA4,zA7,zAa,zA3,↓reduceIte,Option.some.injEq,Nat.reduceEqDiff,reduceCtorEq,Tryz.f86]
    rw [zA2]
    simp -implicitDefEqProofs (maxSteps:=1000000) (disch:=first|rfl|omega|assumption) only [go_sem,g2,g5,g6,g7,ltT,ltF,leT,hk',t1,a1,a2,a3,a4,a5,hxe,fdA,hj0,b1,b2,hle]
    rw [zAg];rotate_left;kernel_rfl
    simp -implicitDefEqProofs (maxSteps:=1000000) (disch:=first|rfl|omega|assumption) only [go_sem,g2,g5,g6,g7,ltT,ltF,leT,hk',t1,a1,a2,a3,a4,a5,hxe,fdA,hj0,b1,b2,hle]
    exact hi _ _ (by rfl) (by rfl) (by rfl) (by rfl)
theorem st_joined {fs:List Fd} {v:AV} (hv:SlOk H 4 v (fs.map fdA)) (hl:fs.length≤100000) (hok:∀ f∈fs,f.Ok) (hm:manyS fs≤100000):zA8 cfg0 zA0 false 86 [v] H none=some ⟨.ret (fdA (joinL fs)),H,none⟩:=by
 have hi:=fun G=>jn_loop hv hl hok hm fs.length 0 (by omega) G
 have hlen:=hv.len
 refine (zA1 fn86 rfl (by simp [Tryz.f86])).trans ?_
 simp -implicitDefEqProofs (maxSteps:=1000000) (disch:=first|rfl|omega|assumption) only [go_sem,ltT,ltF,leT,hlen,List.length_map]
 exact hi _ _ (by rfl) (by rfl) (by rfl) (by rfl)
theorem lg_same (a b:Lg):(lgA a).same (lgA b)=decide (a=b):=by
 obtain ⟨a1,a2,a3⟩:=a
 obtain ⟨b1,b2,b3⟩:=b
 rw [Bool.eq_iff_iff]
 simp only [lgA,AV.same,zBd,Bool.and_eq_true,beq_iff_eq,decide_eq_true_eq,Lg.mk.injEq,and_true,true_and]
 constructor
 ·rintro ⟨h1,h2,h3⟩;exact ⟨h1,h2,by omega⟩
 ·rintro ⟨h1,h2,h3⟩;exact ⟨h1,h2,by omega⟩
def enM (M:List (Lg×Fd)):List (AV×AV):=M.map fun p=>(lgA p.1,fdA p.2)
def getL (l:Lg):List (Lg×Fd)→Option Fd
 | []=>none
 | (k,v)::r=>if l=k then some v else getL l r
def setLg (l:Lg) (f:Fd):List (Lg×Fd)→List (Lg×Fd)
 | []=>[(l,f)]
 | (k,v)::r=>if l=k then (l,f)::r else (k,v)::setLg l f r
def putF (l:Lg) (f:Fd) (M:List (Lg×Fd)):List (Lg×Fd):=setLg l (match getL l M with
 | some g=>g.join f
 | none=>f) M
theorem lookL (l:Lg):∀ M:List (Lg×Fd),zAj (lgA l) (enM M)=(getL l M).map fdA
 | []=>rfl
 | (k,v)::r=>by
  have:=lookL l r
  simp only [enM,List.map_cons,zAj,getL,lg_same,decide_eq_true_eq] at this ⊢
  split
  ·rfl
  ·exact this
theorem putL (l:Lg) (f:Fd):∀ M:List (Lg×Fd),putM (lgA l) (fdA f) (enM M)=enM (setLg l f M)
 | []=>rfl
 | (k,v)::r=>by
  have:=putL l f r
  simp only [enM,List.map_cons,putM,setLg,lg_same,decide_eq_true_eq] at this ⊢
  split
  ·rfl
  ·rw [List.map_cons,this]
theorem getL_mem {l:Lg} {f:Fd}:∀ {M:List (Lg×Fd)},getL l M=some f→(l,f)∈M
 | [],h=>by cases h
 | (k,v)::r,h=>by
  simp only [getL] at h
  split at h
  ·rename_i e;cases h;subst e;simp
  ·exact List.mem_cons_of_mem _ (getL_mem h)
def okM (M:List (Lg×Fd)):Prop:=∀ p∈M,p.2.Ok∧p.2.many≤300
theorem slF (b:Bool) (xs:List Fd):SlOk H 4 (.sl b (xs.map fdA)) (xs.map fdA):=⟨rfl,fun x hx=>by
 obtain ⟨i,_,rfl⟩:=List.mem_map.1 hx;rfl⟩
theorem st_put {M:List (Lg×Fd)} (hM:okM M) {m:Nat} (hm:H[m]? = some (.map 168 (enM M))) (l:Lg) {f:Fd} (hf:f.Ok) (hfm:f.many≤300) :
  zA8 cfg0 zA0 false 91 [.map m,lgA l,fdA f] H none=some ⟨.ret (.tup []),H.set m (.map 168 (enM (putF l f M))),none⟩:=by
 have hml:=(List.getElem?_eq_some_iff.1 hm).1
 have hlook:=lookL l M
 have hz:fdA ⟨0,0,0,0⟩=.agg [I 0,U 0,U 0,U 0]:=rfl
 cases hg:getL l M with
 | none =>
  have hp:putM (lgA l) (fdA f) (enM M)=enM (putF l f M):=by rw [putL,putF,hg]
  rw [hg] at hlook
  simp only [lgA,fdA,Option.map_none] at hlook hp ⊢
  refine (zA1 fn91 rfl (by simp [Tryz.f91])).trans ?_
  simp -implicitDefEqProofs (maxSteps:=1000000) (disch:=first|rfl|omega|assumption) only [go_sem,ltT,ltF,leT,zA6 hml,set_lt hml,hm,hlook,hp]
  done
 | some g =>
  obtain ⟨hgo,hgm⟩:=hM _ (getL_mem hg)
  simp only at hgo hgm
  have hp:putM (lgA l) (fdA (g.join f)) (enM M)=enM (putF l f M):=by rw [putL,putF,hg]
  rw [hg] at hlook
  have hj:=fun G:Heap=>st_joined (H:=G) (fs:=[g,f]) (v:=.sl true [fdA g,fdA f]) (slF true [g,f]) (by simp) (by
    intro x hx
    rcases List.mem_cons.1 hx with rfl | hx
    ·exact hgo
    ·rw [List.mem_singleton] at hx;subst hx;exact hf) (by simp [manyS];omega)
  simp only [joinL,List.foldl_cons,List.foldl_nil] at hj
  simp only [lgA,fdA,Option.map_some] at hlook hp hj ⊢
  refine (zA1 fn91 rfl (by simp [Tryz.f91])).trans ?_
  simp -implicitDefEqProofs (maxSteps:=1000000) (disch:=first|rfl|omega|assumption) only [go_sem,ltT,ltF,leT,zA6 hml,set_lt hml,hm,hlook,hp,hj]
  done
end Go.Ab
