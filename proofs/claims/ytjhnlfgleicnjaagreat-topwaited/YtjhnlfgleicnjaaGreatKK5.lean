/- Warmth: whether a pair can be so. -/
import Derived.Test.YtjhnlfgleicnjaaGreatKK4
namespace Go.Ab
open Go.Proofs
set_option linter.unusedSimpArgs false
set_option linter.unusedVariables false
set_option maxRecDepth 100000
set_option maxHeartbeats 2000000
variable {H:Heap}
structure Wm where
 mark:Int
 n1:Int
 n2:Int
 c1:Int
 c2:Int
 rs:List Rd
structure Wm.Ok (w:Wm):Prop where
 mark:1≤w.mark∧w.mark≤100
 len : -1000≤w.n1∧w.n1≤w.n2∧w.n2≤1000∧w.n2-w.n1≤24
 co:0≤w.c1∧w.c1≤w.c2∧w.c2≤20∧w.c2-w.c1≤3
 many:w.rs.length≤5
 rd:∀ r∈w.rs,r.Ok∧r.w2-r.w1≤4∧r.s2-r.s1≤60000
def Wm.av (w:Wm) (vr:AV):AV:=.agg [I w.mark,I w.n1,I w.n2,I w.c1,I w.c2,vr]
theorem wa_can {w:Wm} (ho:w.Ok) {vr:AV} {b:Nat} (hb:H[b]? = some (.box (w.av vr))) {r:Rd} (hr:r.Ok) {n c:Int} (hn : -1000≤n∧n≤1000) (hc:0≤c∧c≤20) :
  zA8 cfg0 zA0 false 81 [.ptr b 0,.iface 144 (rdA r),.agg [I n,I c]] H none=some ⟨.ret (.bool (canB w.mark n c r)),H,none⟩:=by
 have hbl:=(List.getElem?_eq_some_iff.1 hb).1
 have hm:=ho.mark
 have hrd:=fun G:Heap=>wa_rd r w.mark n c G
 simp only [Wm.av] at hb
 obtain ⟨e,he⟩:∃ e:Env,e.get 6=.ptr (H.length+1) 0∧e=[(17,.func (.func 118) [] [.ptr (H.length+2) 0,.ptr (H.length+3) 0,.ptr (H.length+4) 0]),(16,.iface 144 (rdA r)),(15,.func (.method "blockworks/warm.warm") [.iface 144 (rdA r)] []),(14,.func (.method "blockworks/warm.warm") [.iface 144 (rdA r)] []),(13,.agg [I n,I c]),(12,I w.mark),(11,.ptr b 0),(10,.ptr b 0),(9,.ptr b 0),(8,.ptr b 0),(7,.iface 144 (rdA r)),(6,.ptr (H.length+1) 0),(5,.ptr H.length 0),(0,.ptr b 0),(1,.iface 144 (rdA r)),(2,.agg [I n,I c])]:=⟨_,rfl,rfl⟩
 obtain ⟨e6,he⟩:=he
 have e17:e.get 17=.func (.func 118) [] [.ptr (H.length+2) 0,.ptr (H.length+3) 0,.ptr (H.length+4) 0]:=by rw [he];rfl
 have hit:=rw_it (m:=w.mark) (n:=n) (c:=c) (r:=r) (H:=H++[.box (.agg [I n,I c]),.box (.bool false),.box (rdA r),.box (I w.mark),.box (.agg [I n,I c]),.dfr,.loop (zAq Tryz.f81 81 0 e (H.length+5))]) (by omega) (by omega) (by omega) hr
  (H2:=H++[.box (.agg [I n,I c]),.box (.bool true),.box (rdA r),.box (I w.mark),.box (.agg [I n,I c]),.dfr,.loop { zAq Tryz.f81 81 0 e (H.length+5) with state:=.done,pending:=some .ret }]) (by simp) (y:=H.length+6) (br:=H.length+2) (bm:=H.length+3) (bp:=H.length+4) (by simp) (by simp) (by simp)
  (fun b t G=>by
   simp only [zAq,zAo,List.nil_append,List.append_nil,List.cons_append,List.getElem?_cons_zero,List.getElem?_cons_succ,Tryz.f81]
   simp -implicitDefEqProofs (maxSteps:=1000000) (disch:=first|rfl|omega|assumption) only [go_sem,ltT,ltF,leT,callV_yield,e6]
   done) (by simp)
 simp only [zAq,zAo,List.nil_append,List.append_nil,List.cons_append,List.getElem?_cons_zero,List.getElem?_cons_succ,Tryz.f81] at hit
 simp only [rdA] at hit hrd he ⊢
 rcases Bool.eq_false_or_eq_true (canB w.mark n c r) with hA | hA<;>simp only [hA,Bool.false_eq_true,if_false,if_true] at hit ⊢
 ·skip
  refine (zA1 fn81 rfl (by simp [Tryz.f81])).trans ?_
  simp -implicitDefEqProofs (maxSteps:=1000000) (disch:=first|rfl|omega|assumption) only [go_sem,ltT,ltF,leT]
  rw [zAg];rotate_left;kernel_rfl
  simp -implicitDefEqProofs (maxSteps:=1000000) (disch:=first|rfl|omega|assumption) only [go_sem,ltT,ltF,leT,zA6 hbl,hb,hrd,← he,e6,e17,hit]
  done
 ·skip
  refine (zA1 fn81 rfl (by simp [Tryz.f81])).trans ?_
  simp -implicitDefEqProofs (maxSteps:=1000000) (disch:=first|rfl|omega|assumption) only [go_sem,ltT,ltF,leT]
  rw [zAg];rotate_left;kernel_rfl
  simp -implicitDefEqProofs (maxSteps:=1000000) (disch:=first|rfl|omega|assumption) only [go_sem,ltT,ltF,leT,zA6 hbl,hb,hrd,← he,e6,e17,hit]
  done
theorem wa_bad {w:Wm} (ho:w.Ok) {vr:AV} {b pb pp:Nat} (hb:H[b]? = some (.box (w.av vr))) (hpb:H[pb]? = some (.box (.ptr b 0))) {r:Rd} (hr:r.Ok) {n c:Int} (hn : -1000≤n∧n≤1000) (hc:0≤c∧c≤20) (hpp:H[pp]? = some (.box (.agg [I n,I c]))) :
  zA8 cfg0 zA0 false 80 [rdA r,.ptr pb 0,.ptr pp 0] H none=some ⟨.ret (.bool (!canB w.mark n c r)),H,none⟩:=by
 have hca:=wa_can (H:=H++[.box (rdA r)]) ho (vr:=vr) (b:=b) (by rw [List.getElem?_append_left (List.getElem?_eq_some_iff.1 hb).1];exact hb) hr hn hc
 have l1:=(List.getElem?_eq_some_iff.1 hpb).1
 have l2:=(List.getElem?_eq_some_iff.1 hpp).1
 simp only [rdA] at hca ⊢
 refine (zA1 fn80 rfl (by simp [Tryz.f80])).trans ?_
 simp -implicitDefEqProofs (maxSteps:=1000000) (disch:=first|rfl|omega|assumption) only [go_sem,ltT,ltF,leT,zA6 l1,zA6 l2,hpb,hpp,hca]
 done
def ixR (j:Nat):Option Nat→Int
 | some i=>((j+i:Nat):Int)
 | none => -1
def rd0:Rd:=⟨0,0,0,0⟩
theorem ix_loop {w:Wm} (ho:w.Ok) {vr vl:AV} {b pb pp:Nat} (hb:H[b]? = some (.box (w.av vr))) (hpb:H[pb]? = some (.box (.ptr b 0))) (hl:SlOk H 4 vl (w.rs.map rdA)) {n c:Int} (hn : -1000≤n∧n≤1000) (hc:0≤c∧c≤20) (hpp:H[pp]? = some (.box (.agg [I n,I c]))) :
  ∀ (q j:Nat),j+q=w.rs.length→∀ E:Env,E.get 0=vl→E.get 1=.func (.func 80) [] [.ptr pb 0,.ptr pp 0]→E.get 7=I w.rs.length→E.get 8=I j →
  Option.map (zAi H.length) (zAh cfg0 zA0 ⟨87,none,false,H.length⟩ (zA7 Tryz.f87 2) ⟨E,[],H,none⟩)=some ⟨.ret (I (ixR j ((w.rs.drop j).findIdx? (fun r=>!canB w.mark n c r)))),H,none⟩:=by
 intro q
 obtain ⟨a1,a2,a3,a4,a5⟩:=hl.fF (d:=rd0)
 have h5:=ho.many
 induction q with
 | zero =>
  intro j hj  E g0 g1 g7 g8
  have hk':¬ (j:Int)<((w.rs.length:Nat):Int):=by omega
  have ej:w.rs.drop j=[]:=List.drop_of_length_le (by omega)
  rw [ej]
  simp only [List.findIdx?_nil,ixR]
  simp only [zAb,zA4,zA7,zAa,zA3,↓reduceIte,Option.some.injEq,Nat.reduceEqDiff,reduceCtorEq,Tryz.f87]
  rw [zA2]
  simp -implicitDefEqProofs (maxSteps:=1000000) (disch:=first|rfl|omega|assumption) only [go_sem,g0,g1,g7,g8,ltT,ltF,leT,hk']
  done
 | succ q ih =>
  intro j hj  E g0 g1 g7 g8
  have hk':(j:Int)<((w.rs.length:Nat):Int):=by omega
  have hk2:j<w.rs.length:=by omega
  obtain ⟨r,hxe⟩:∃ x,w.rs.getD j rd0=x:=⟨_,rfl⟩
  have hdr:w.rs.drop j=r::w.rs.drop (j+1):=by
   rw [← hxe,List.getD_eq_getElem?_getD,List.getElem?_eq_getElem (show j<w.rs.length by omega)]
   exact List.drop_eq_getElem_cons (by omega)
  have hrm:r∈w.rs:=by rw [← hxe,List.getD_eq_getElem?_getD,List.getElem?_eq_getElem (show j<w.rs.length by omega)];exact List.getElem_mem _
  have hba:=wa_bad ho hb hpb (ho.rd r hrm).1 hn hc hpp
  have key:=ih (j+1) (by omega)
  rw [hdr,List.findIdx?_cons]
  rcases Bool.eq_false_or_eq_true (canB w.mark n c r) with hA | hA
  ·have hm:ixR (j+1) ((w.rs.drop (j+1)).findIdx? (fun r=>!canB w.mark n c r))=ixR j (Option.map (fun i=>i+1) ((w.rs.drop (j+1)).findIdx? (fun r=>!canB w.mark n c r))):=by
    cases (w.rs.drop (j+1)).findIdx? (fun r=>!canB w.mark n c r) with
    | none=>rfl
    | some i=>simp only [Option.map_some,ixR];omega
   rw [hm] at key
   simp only [hA,Bool.not_true,Bool.false_eq_true,if_false] at hba ⊢
   simp only [rdA] at a1 a2 a3 a4 hba
   simp only [zAb,zA4,zA7,zAa,zA3,↓reduceIte,Option.some.injEq,Nat.reduceEqDiff,reduceCtorEq,Tryz.f87]
   rw [zA2]
   simp -implicitDefEqProofs (maxSteps:=1000000) (disch:=first|rfl|omega|assumption) only [go_sem,g0,g1,g7,g8,ltT,ltF,leT,hk',a1,a2,a3,a4,hxe,hba]
   exact key _ (by exact g0) (by exact g1) (by exact g7) (by rfl)
  ·simp only [hA,Bool.not_false,if_true,Nat.add_zero,ixR] at hba ⊢
   simp only [rdA] at a1 a2 a3 a4 hba
   simp only [zAb,zA4,zA7,zAa,zA3,↓reduceIte,Option.some.injEq,Nat.reduceEqDiff,reduceCtorEq,Tryz.f87]
   rw [zA2]
   simp -implicitDefEqProofs (maxSteps:=1000000) (disch:=first|rfl|omega|assumption) only [go_sem,g0,g1,g7,g8,ltT,ltF,leT,hk',a1,a2,a3,a4,hxe,hba]
   done
theorem findIdx_any {α:Type} {p:α→Bool} (l:List α):decide ((0:Int)≤ixR 0 (l.findIdx? p))=l.any p:=by
 cases h:l.findIdx? p with
 | none =>
  have:=List.findIdx?_eq_none_iff.1 h
  have h2:l.any p=false:=by simpa using this
  rw [h2];rfl
 | some i =>
  have h2:l.any p=true:=by
   obtain ⟨h3,h4,_⟩:=List.findIdx?_eq_some_iff_getElem.1 h
   exact List.any_eq_true.2 ⟨_,List.getElem_mem h3,h4⟩
  rw [h2]
  exact decide_eq_true (Int.natCast_nonneg _)
def badB (w:Wm) (p:Int×Int):Bool:=w.rs.any fun r=>!canB w.mark p.1 p.2 r
theorem wa_contains {w:Wm} (ho:w.Ok) {vr vl:AV} {b pb pp:Nat} (hb:H[b]? = some (.box (w.av vr))) (hpb:H[pb]? = some (.box (.ptr b 0))) (hl:SlOk H 4 vl (w.rs.map rdA)) {n c:Int} (hn : -1000≤n∧n≤1000) (hc:0≤c∧c≤20) (hpp:H[pp]? = some (.box (.agg [I n,I c]))) :
  zA8 cfg0 zA0 false 79 [vl,.func (.func 80) [] [.ptr pb 0,.ptr pp 0]] H none=some ⟨.ret (.bool (badB w (n,c))),H,none⟩:=by
 have hlen:=hl.len
 rw [List.length_map] at hlen
 have key:=ix_loop ho hb hpb hl hn hc hpp w.rs.length 0 (by omega)
 rw [List.drop_zero] at key
 have hix:zA8 cfg0 zA0 false 87 [vl,.func (.func 80) [] [.ptr pb 0,.ptr pp 0]] H none=some ⟨.ret (I (ixR 0 (w.rs.findIdx? (fun r=>!canB w.mark n c r)))),H,none⟩:=by
  refine (zA1 fn87 rfl (by simp [Tryz.f87])).trans ?_
  simp -implicitDefEqProofs (maxSteps:=1000000) (disch:=first|rfl|omega|assumption) only [go_sem,ltT,ltF,leT,hlen]
  exact key _ (by rfl) (by rfl) (by rfl) (by rfl)
 have hfa:=findIdx_any (p:=fun r=>!canB w.mark n c r) w.rs
 generalize ixR 0 (w.rs.findIdx? (fun r=>!canB w.mark n c r))=x at hix hfa
 simp only [badB,← hfa]
 refine (zA1 fn79 rfl (by simp [Tryz.f79])).trans ?_
 simp -implicitDefEqProofs (maxSteps:=1000000) (disch:=first|rfl|omega|assumption) only [go_sem,ltT,ltF,leT,hix]
 done
theorem rdA_mk (a b c d:Int):rdA ⟨a,b,c,d⟩=.agg [I a,I b,I c,I d]:=rfl
theorem rdLt (l:List Rd) (N:Nat):ltL N (l.map rdA)=true:=ltL_map (fun _=>rfl) l
theorem rl_loop {w:Wm} (ho:w.Ok) {vr:AV} (h:SlOk H 4 vr (w.rs.map rdA)) :
  ∀ (q j:Nat),j+q=w.rs.length→∀ (G:Heap),∀ E:Env,E.get 2=.gsl H.length j→E.get 9=vr→E.get 10=I w.rs.length→E.get 11=I j →
  Option.map (zAi H.length) (zAh cfg0 zA0 ⟨78,none,false,H.length⟩ (zA7 Tryz.f78 2) ⟨E,[],H++(.grow 4 ((w.rs.take j).map rdA)::G),none⟩)=some ⟨.ret (.sl false (w.rs.map rdA)),H,none⟩:=by
 intro q
 obtain ⟨a1,a2,a3,a4,a5⟩:=h.fF (d:=rd0)
 have t1:=h.ltn 1
 have h5:=ho.many
 induction q with
 | zero =>
  intro j hj G E g2 g9 g10 g11
  have hk':¬ (j:Int)<((w.rs.length:Nat):Int):=by omega
  have ej:w.rs.take j=w.rs:=List.take_of_length_le (by omega)
  have ej2:j=w.rs.length:=by omega
  subst ej2
  rw [ej]
  simp only [zAb,zA4,zA7,zAa,zA3,↓reduceIte,Option.some.injEq,Nat.reduceEqDiff,reduceCtorEq,Tryz.f78]
  rw [zA2]
  have lm:(w.rs.map rdA).length=w.rs.length:=List.length_map _
  simp -implicitDefEqProofs (maxSteps:=1000000) (disch:=first|rfl|omega|assumption) only [go_sem,g2,g9,g10,g11,ltT,ltF,leT,hk',t1,rdLt,lm]
  done
 | succ q ih =>
  intro j hj G E g2 g9 g10 g11
  have hk':(j:Int)<((w.rs.length:Nat):Int):=by omega
  have hk2:j<w.rs.length:=by omega
  obtain ⟨⟨x1,x2,x3,x4⟩,hxe⟩:∃ x,w.rs.getD j rd0=x:=⟨_,rfl⟩
  have htk:=take_getD (d:=rd0) (show j<w.rs.length by omega)
  rw [hxe] at htk
  have hlj:(w.rs.take j).length=j:=by rw [List.length_take];omega
  have hadd:zBo (H++[.grow 4 ((w.rs.take j).map rdA),.box (rdA ⟨x1,x2,x3,x4⟩)]) 4 true (.gsl H.length j) [rdA ⟨x1,x2,x3,x4⟩]=some (.gsl H.length (j+1),H++[.grow 4 ((w.rs.take (j+1)).map rdA),.box (rdA ⟨x1,x2,x3,x4⟩)]):=by
   have hb:j+1≤maxLenA:=by simp only [maxLenA];omega
   have e0:zB9 4 true [rdA ⟨x1,x2,x3,x4⟩]=true:=rfl
   have e9:ltL 0 [rdA ⟨x1,x2,x3,x4⟩]=true:=rfl
   simp only [zBo]
   rw [show (H++[AO.grow 4 ((w.rs.take j).map rdA),AO.box (rdA ⟨x1,x2,x3,x4⟩)])[H.length]? = some (AO.grow 4 ((w.rs.take j).map rdA)) by simp]
   simp only [e0,e9,List.length_map,hlj,List.length_cons,List.length_nil,Nat.zero_add,hb,and_self,decide_true,Bool.and_self,if_true]
   rw [htk,List.set_append_right _ _ (Nat.le_refl _)]
   simp
  have hlt:=rdLt (w.rs.take j) 0
  have key:=ih (j+1) (by omega) [.box (rdA ⟨x1,x2,x3,x4⟩)]
  simp only [rdA_mk] at hadd key
  simp only [zAb,zA4,zA7,zAa,zA3,↓reduceIte,Option.some.injEq,Nat.reduceEqDiff,reduceCtorEq,Tryz.f78]
  rw [zA2]
  simp -implicitDefEqProofs (maxSteps:=1000000) (disch:=first|rfl|omega|assumption) only [go_sem,g2,g9,g10,g11,ltT,ltF,leT,hk',t1,hlt,a1,a2,a3,a4,hxe,hadd,rdA_mk,hlj,List.length_map]
  exact key _ (by rfl) (by rfl) (by rfl) (by rfl)
theorem wa_readings {w:Wm} (ho:w.Ok) {vr:AV} {b:Nat} (hb:H[b]? = some (.box (w.av vr))) (h:SlOk H 4 vr (w.rs.map rdA)):zA8 cfg0 zA0 false 78 [.ptr b 0] H none=some ⟨.ret (.sl false (w.rs.map rdA)),H,none⟩:=by
 have hbl:=(List.getElem?_eq_some_iff.1 hb).1
 have hlen:=h.len
 rw [List.length_map] at hlen
 have hs1:=h.scal
 have key:=rl_loop ho h w.rs.length 0 (by omega) []
 simp only [Wm.av] at hb
 refine (zA1 fn78 rfl (by simp [Tryz.f78])).trans ?_
 simp -implicitDefEqProofs (maxSteps:=1000000) (disch:=first|rfl|omega|assumption) only [go_sem,ltT,ltF,leT,hb,zA6 hbl,hlen,hs1]
 exact key _ (by rfl) (by rfl) (by rfl) (by rfl)
def goodK (w:Wm) (n:Int):Nat→Nat→List (Int×Int)
 | _,0=>[]
 | j,k+1=>(if badB w (n,w.c1+j) then [] else [(n,w.c1+j)])++goodK w n (j+1) k
def goodJ (w:Wm):Nat→Nat→List (Int×Int)
 | _,0=>[]
 | j,k+1=>goodK w (w.n1+j) 0 (anyN w.c1 w.c2)++goodJ w (j+1) k
def goodL (w:Wm):List (Int×Int):=goodJ w 0 (anyN w.n1 w.n2)
structure HearsW (w:Wm) (vr:AV) (b pb N y:Nat) (W:List (Int×Int)→Heap):Prop where
 len:∀ L,(W L).length=N
 lt:y<N
 blk:∀ L,(W L)[b]? = some (.box (w.av vr))
 ptr:∀ L,(W L)[pb]? = some (.box (.ptr b 0))
 rs:∀ L,SlOk (W L) 4 vr (w.rs.map rdA)
 y:∀ base L n c G,zAw cfg0 zA0 base false (.yield y) [.agg [I n,I c]] [] (W L++G) none=some ⟨.ret (.bool true),W (L++[(n,c)])++G,none⟩
theorem slR (H:Heap) (b:Bool) (xs:List Rd):SlOk H 4 (.sl b (xs.map rdA)) (xs.map rdA):=⟨rfl,fun x hx=>by
 obtain ⟨i,_,rfl⟩:=List.mem_map.1 hx;rfl⟩
theorem pi_loop {w:Wm} (ho:w.Ok) {vr:AV} {b pb N y:Nat} {W:List (Int×Int)→Heap} (hh:HearsW w vr b pb N y W) {n:Int} (hn : -1000≤n∧n≤1000) {R:Option Done} :
  ∀ (q j:Nat),j+q=anyN w.c1 w.c2→∀ L:List (Int×Int),(∀ (G:Heap) (E:Env),E.get 0=.func (.yield y) [] []→E.get 1=.ptr pb 0→E.get 3=.sl false (w.rs.map rdA)→E.get 4=I (n+1) →
    Option.map (zAi N) (zAh cfg0 zA0 ⟨77,none,false,N⟩ (zA7 Tryz.f77 2) ⟨E,[],W (L++goodK w n j q)++G,none⟩)=R) →
   ∀ (G:Heap) (E:Env),E.get 0=.func (.yield y) [] []→E.get 1=.ptr pb 0→E.get 3=.sl false (w.rs.map rdA)→E.get 4=I n→E.get 5=I (w.c1+j) →
    Option.map (zAi N) (zAh cfg0 zA0 ⟨77,none,false,N⟩ (zA7 Tryz.f77 5) ⟨E,[],W L++G,none⟩)=R:=by
 have hk':True:=trivial
 have hc:=ho.co
 have hcn:((anyN w.c1 w.c2:Nat):Int)=w.c2+1-w.c1:=by simp only [anyN];omega
 have htk:∀ L G,(W L++G).take N=W L:=fun L G=>by rw [← hh.len L];exact List.take_left' rfl
 have hdr:∀ L,(W L).drop N=[]:=fun L=>List.drop_of_length_le (by rw [hh.len L];exact Nat.le_refl _)
 have hbl:b<N:=by have:=(List.getElem?_eq_some_iff.1 (hh.blk [])).1;rwa [hh.len] at this
 have hpl:pb<N:=by have:=(List.getElem?_eq_some_iff.1 (hh.ptr [])).1;rwa [hh.len] at this
 have hwi:IntKind.i64.wrap (n+1)=n+1:=w64 (by omega) (by omega)
 have hyl:=hh.lt
 intro q
 induction q with
 | zero =>
  intro j hj L hend G E g0 g1 g3 g4 g5
  have hb:=hh.blk L
  have hp:=hh.ptr L
  have hj1:¬ w.c1+(j:Int)≤w.c2:=by omega
  simp only [goodK,List.append_nil] at hend
  simp only [Wm.av] at hb
  simp only [zAb,zA4,zA7,zAa,zA3,↓reduceIte,Option.some.injEq,Nat.reduceEqDiff,reduceCtorEq,Tryz.f77]
  rw [zA2]
  simp -implicitDefEqProofs (maxSteps:=1000000) (disch:=first|rfl|omega|assumption) only [go_sem,g0,g1,g3,g4,g5,ltT,ltF,leT,hk',htk,hdr,hyl,hpl,hb,hp,hj1,hwi,Nat.add_zero]
  have he:=hend []
  simp only [List.append_nil] at he
  exact he _ (by rfl) (by rfl) (by rfl) (by rfl)
 | succ q ih =>
  intro j hj L hend G E g0 g1 g3 g4 g5
  have hb:=hh.blk L
  have hp:=hh.ptr L
  have hlen:=hh.len L
  have hj1:w.c1+(j:Int)≤w.c2:=by omega
  have hwj:IntKind.i64.wrap (w.c1+(j:Int)+1)=w.c1+((j+1:Nat):Int):=by rw [w64 (by omega) (by omega)];omega
  have hcon:=wa_contains (H:=W L++[.box (.agg [I n,I (w.c1+j)])]) ho (vr:=vr) (vl:=.sl false (w.rs.map rdA)) (b:=b) (pb:=pb) (pp:=N) (by rw [List.getElem?_append_left (by omega)];exact hb) (by rw [List.getElem?_append_left (by omega)];exact hp) (slR _ false w.rs) hn (c:=w.c1+j) (by omega) (by rw [← hlen];simp)
  have hgN:∀ x:AO,(W L++[x])[N]? = some x:=fun x=>by rw [← hlen];simp
  have hsN:∀ x y:AO,(W L++[x]).set N y=W L++[y]:=fun x y=>by rw [← hlen,List.set_append_right _ _ (Nat.le_refl _)];simp
  have hgN2:∀ x:AO,(W (L++[(n,w.c1+(j:Int))])++[x])[N]? = some x:=fun x=>by rw [← hh.len (L++[(n,w.c1+(j:Int))])];simp
  have hy:=fun base=>hh.y base L n (w.c1+j) [.box (.agg [I n,I (w.c1+j)])]
  simp only [goodK] at hend
  simp only [Wm.av] at hb
  rcases Bool.eq_false_or_eq_true (badB w (n,w.c1+(j:Int))) with hB | hB
  ·rw [hB] at hcon
   simp only [hB,if_true,List.nil_append] at hend
   have key:=ih (j+1) (by omega) L hend
   simp only [zAb,zA4,zA7,zAa,zA3,↓reduceIte,Option.some.injEq,Nat.reduceEqDiff,reduceCtorEq,Tryz.f77]
   rw [zA2]
   simp -implicitDefEqProofs (maxSteps:=1000000) (disch:=first|rfl|omega|assumption) only [go_sem,g0,g1,g3,g4,g5,ltT,ltF,leT,hk',htk,hdr,hyl,hpl,zA6 (show b<(W L).length by omega),zA6 (show pb<(W L).length by omega),hlen,hb,hp,hj1,hwj,hgN,hsN,hcon,Nat.add_zero]
   exact key _ _ (by rfl) (by rfl) (by rfl) (by rfl) (by rfl)
  ·rw [hB] at hcon
   simp only [hB,Bool.false_eq_true,if_false,List.append_assoc] at hend
   have key:=ih (j+1) (by omega) (L++[(n,w.c1+(j:Int))]) (by simpa only [List.append_assoc] using hend)
   simp only [zAb,zA4,zA7,zAa,zA3,↓reduceIte,Option.some.injEq,Nat.reduceEqDiff,reduceCtorEq,Tryz.f77]
   rw [zA2]
   simp -implicitDefEqProofs (maxSteps:=1000000) (disch:=first|rfl|omega|assumption) only [go_sem,g0,g1,g3,g4,g5,ltT,ltF,leT,hk',htk,hdr,hyl,hpl,zA6 (show b<(W L).length by omega),zA6 (show pb<(W L).length by omega),hlen,hb,hp,hj1,hwj,hgN,hsN,hgN2,hcon,hy,Nat.add_zero]
   exact key _ _ (by rfl) (by rfl) (by rfl) (by rfl) (by rfl)
theorem po_loop {w:Wm} (ho:w.Ok) {vr:AV} {b pb N y:Nat} {W:List (Int×Int)→Heap} (hh:HearsW w vr b pb N y W) :
  ∀ (q j:Nat),j+q=anyN w.n1 w.n2→∀ L:List (Int×Int),∀ (G:Heap) (E:Env),E.get 0=.func (.yield y) [] []→E.get 1=.ptr pb 0→E.get 3=.sl false (w.rs.map rdA)→E.get 4=I (w.n1+j) →
    Option.map (zAi N) (zAh cfg0 zA0 ⟨77,none,false,N⟩ (zA7 Tryz.f77 2) ⟨E,[],W L++G,none⟩)=some ⟨.ret (.tup []),W (L++goodJ w j q),none⟩:=by
 have hk':True:=trivial
 have hc:=ho.co
 have hl:=ho.len
 have hcn:((anyN w.n1 w.n2:Nat):Int)=w.n2+1-w.n1:=by simp only [anyN];omega
 have htk:∀ L G,(W L++G).take N=W L:=fun L G=>by rw [← hh.len L];exact List.take_left' rfl
 have htk2:∀ L,(W L).take N=W L:=fun L=>List.take_of_length_le (by rw [hh.len L];exact Nat.le_refl _)
 have hdr:∀ L,(W L).drop N=[]:=fun L=>List.drop_of_length_le (by rw [hh.len L];exact Nat.le_refl _)
 have hbl:b<N:=by have:=(List.getElem?_eq_some_iff.1 (hh.blk [])).1;rwa [hh.len] at this
 have hpl:pb<N:=by have:=(List.getElem?_eq_some_iff.1 (hh.ptr [])).1;rwa [hh.len] at this
 have hyl:=hh.lt
 intro q
 induction q with
 | zero =>
  intro j hj L G E g0 g1 g3 g4
  have hb:=hh.blk L
  have hp:=hh.ptr L
  have hj1:¬ w.n1+(j:Int)≤w.n2:=by omega
  simp only [Wm.av] at hb
  simp only [goodJ,List.append_nil]
  simp only [zAb,zA4,zA7,zAa,zA3,↓reduceIte,Option.some.injEq,Nat.reduceEqDiff,reduceCtorEq,Tryz.f77]
  rw [zA2]
  simp -implicitDefEqProofs (maxSteps:=1000000) (disch:=first|rfl|omega|assumption) only [go_sem,g0,g1,g3,g4,ltT,ltF,leT,hk',htk,htk2,hdr,hyl,hpl,hb,hp,hj1,Nat.add_zero]
  done
 | succ q ih =>
  intro j hj L G E g0 g1 g3 g4
  have hb:=hh.blk L
  have hp:=hh.ptr L
  have hj1:w.n1+(j:Int)≤w.n2:=by omega
  simp only [Wm.av] at hb
  have key:=pi_loop ho hh (n:=w.n1+j) (by omega) (R:=some ⟨.ret (.tup []),W (L++goodJ w j (q+1)),none⟩) (anyN w.c1 w.c2) 0 (by omega) L (fun G E e0 e1 e3 e4=>by
   have:=ih (j+1) (by omega) (L++goodK w (w.n1+j) 0 (anyN w.c1 w.c2)) G E e0 e1 e3 (by rw [e4];congr 1;omega)
   rw [this]
   simp only [goodJ,List.append_assoc])
  have key2:=key []
  simp only [List.append_nil] at key2
  simp only [zAb,zA4,zA7,zAa,zA3,↓reduceIte,Option.some.injEq,Nat.reduceEqDiff,reduceCtorEq,Tryz.f77]
  rw [zA2]
  simp -implicitDefEqProofs (maxSteps:=1000000) (disch:=first|rfl|omega|assumption) only [go_sem,g0,g1,g3,g4,ltT,ltF,leT,hk',htk,hdr,hyl,hpl,hb,hp,hj1,Nat.add_zero]
  exact key2 _ (by rfl) (by rfl) (by rfl) (by rfl) (by simp [Env.get])
theorem pairs_it {w:Wm} (ho:w.Ok) {vr:AV} {b pb N y:Nat} {W:List (Int×Int)→Heap} (hh:HearsW w vr b pb N y W) :
  zA8 cfg0 zA0 false 77 [.func (.yield y) [] [],.ptr pb 0] (W []) none=some ⟨.ret (.tup []),W (goodL w),none⟩:=by
 have hb:=hh.blk []
 have hp:=hh.ptr []
 have hlen:=hh.len []
 have hrd:=wa_readings ho hb (hh.rs [])
 have key:=po_loop ho hh (anyN w.n1 w.n2) 0 (by omega) [] []
 simp only [List.append_nil,List.nil_append] at key
 simp only [Wm.av] at hb
 refine (zA1 fn77 rfl (by simp [Tryz.f77])).trans ?_
 simp -implicitDefEqProofs (maxSteps:=1000000) (disch:=first|rfl|omega|assumption) only [go_sem,ltT,ltF,leT,hb,hp,hrd,hlen]
 exact key _ (by rfl) (by rfl) (by rfl) (by simp [Env.get])
theorem wo_loop {w:Wm} (ho:w.Ok) {vr:AV} (h:SlOk H 4 vr (w.rs.map rdA)) :
  ∀ (q j:Nat),j+q=w.rs.length→∀ (G:Heap),∀ E:Env,E.get 1=I 0→E.get 2=.bool true→E.get 3=.ptr H.length 0→E.get 30=vr→E.get 31=I w.rs.length→E.get 32=I j →
  Option.map (zAi H.length) (zAh cfg0 zA0 ⟨32,none,false,H.length⟩ (zA7 Tryz.f32 3) ⟨E,[],H++(.box (w.av vr)::G),none⟩)=some ⟨.ret (.ptr (H.length+1) 0),H++[.box (w.av vr),.box (w.av vr)],none⟩:=by
 intro q
 obtain ⟨a1,a2,a3,a4,a5⟩:=h.fF (d:=rd0)
 have t1:=h.ltn 1
 have hs1:=h.scal
 have h5:=ho.many
 induction q with
 | zero =>
  intro j hj G E g1 g2 g3 g30 g31 g32
  have hk':¬ (j:Int)<((w.rs.length:Nat):Int):=by omega
  simp only [Wm.av]
  simp only [zAb,zA4,zA7,zAa,zA3,↓reduceIte,Option.some.injEq,Nat.reduceEqDiff,reduceCtorEq,Tryz.f32]
  rw [zA2]
  simp -implicitDefEqProofs (maxSteps:=1000000) (disch:=first|rfl|omega|assumption) only [go_sem,g1,g2,g3,g30,g31,g32,ltT,ltF,leT,hk',t1,hs1,wa_ask]
  done
 | succ q ih =>
  intro j hj G E g1 g2 g3 g30 g31 g32
  have hk':(j:Int)<((w.rs.length:Nat):Int):=by omega
  have hk2:j<w.rs.length:=by omega
  obtain ⟨⟨w1,w2,s1,s2⟩,hxe⟩:∃ x,w.rs.getD j rd0=x:=⟨_,rfl⟩
  have hrm:(⟨w1,w2,s1,s2⟩:Rd)∈w.rs:=by rw [← hxe,List.getD_eq_getElem?_getD,List.getElem?_eq_getElem (show j<w.rs.length by omega)];exact List.getElem_mem _
  obtain ⟨⟨⟨r1,r2,r3⟩,r4,r5,r6⟩,r7,r8⟩:=ho.rd _ hrm
  simp only at r1 r2 r3 r4 r5 r6 r7 r8
  have c1:spW w1 w2 (-100) 100 4=true:=by simp only [spW,Bool.and_eq_true,decide_eq_true_eq];omega
  have c2:spW s1 s2 (-30000) 30000 60000=true:=by simp only [spW,Bool.and_eq_true,decide_eq_true_eq];omega
  have h1:=fun G=>wa_isSpan w1 w2 (-100) 100 4 (by omega) (by omega) G
  have h2:=fun G=>wa_isSpan s1 s2 (-30000) 30000 60000 (by omega) (by omega) G
  rw [c1] at h1
  rw [c2] at h2
  have key:=ih (j+1) (by omega) [.box (.agg [I w1,I w2,I s1,I s2])]
  simp only [Wm.av] at key ⊢
  simp only [zAb,zA4,zA7,zAa,zA3,↓reduceIte,Option.some.injEq,Nat.reduceEqDiff,reduceCtorEq,Tryz.f32]
  rw [zA2]
  simp -implicitDefEqProofs (maxSteps:=1000000) (disch:=first|rfl|omega|assumption) only [go_sem,g1,g2,g3,g30,g31,g32,ltT,ltF,leT,hk',t1,hs1,a1,a2,a3,a4,hxe,rdA_mk,h1,h2,wa_ask]
  exact key _ (by rfl) (by rfl) (by rfl) (by rfl) (by rfl) (by rfl)
theorem wa_open {w:Wm} (ho:w.Ok) {vr:AV} (h:SlOk H 4 vr (w.rs.map rdA)):zA8 cfg0 zA0 false 32 [w.av vr,I 0,.bool true] H none=some ⟨.ret (.ptr (H.length+1) 0),H++[.box (w.av vr),.box (w.av vr)],none⟩:=by
 have t1:=h.ltn 1
 have hs1:=h.scal
 have hlen:=h.len
 rw [List.length_map] at hlen
 have h5:=ho.many
 have hm:=ho.mark
 have hl:=ho.len
 have hc:=ho.co
 have key:=wo_loop ho h w.rs.length 0 (by omega) []
 have c0:wi w.mark 1 100=true:=by simp only [wi,Bool.and_eq_true,decide_eq_true_eq];omega
 have c1:spW w.n1 w.n2 (-1000) 1000 24=true:=by simp only [spW,Bool.and_eq_true,decide_eq_true_eq];omega
 have c2:spW w.c1 w.c2 0 20 3=true:=by simp only [spW,Bool.and_eq_true,decide_eq_true_eq];omega
 have h1:=fun G=>wa_isSpan w.n1 w.n2 (-1000) 1000 24 (by omega) (by omega) G
 have h2:=fun G=>wa_isSpan w.c1 w.c2 0 20 3 (by omega) (by omega) G
 rw [c1] at h1
 rw [c2] at h2
 have h0:=fun G=>wa_within w.mark 1 100 G
 rw [c0] at h0
 have c5:(w.rs.length:Int)≤5:=by omega
 simp only [Wm.av] at key ⊢
 refine (zA1 fn32 rfl (by simp [Tryz.f32])).trans ?_
 simp -implicitDefEqProofs (maxSteps:=1000000) (disch:=first|rfl|omega|assumption) only [go_sem,ltT,ltF,leT,t1,hs1,hlen,h0,h1,h2,c5,wa_ask]
 exact key _ (by rfl) (by rfl) (by rfl) (by rfl) (by rfl) (by rfl)
def kP (p:Int×Int):AV:=.agg [I p.1,I p.2]
theorem kP_same (a b:Int×Int):(kP a).same (kP b)=decide (a=b):=by
 obtain ⟨a1,a2⟩:=a
 obtain ⟨b1,b2⟩:=b
 rw [Bool.eq_iff_iff]
 simp only [kP,AV.same,zBd,Bool.and_eq_true,beq_iff_eq,decide_eq_true_eq,Prod.mk.injEq,and_true,true_and]
def mapP (L:List (Int×Int)):List (AV×AV):=L.foldl (fun es p=>putM (kP p) (.bool true) es) []
theorem putPq (p:Int×Int):∀ D:List (Int×Int),putM (kP p) (.bool true) (D.map fun q=>(kP q,AV.bool true))=(if p∈D then D else D++[p]).map fun q=>(kP q,AV.bool true)
 | []=>rfl
 | q::D=>by
  have ih:=putPq p D
  simp only [List.map_cons,putM,kP_same,decide_eq_true_eq]
  by_cases e:p=q
  ·subst e;simp
  ·simp only [e,if_false,ih,List.mem_cons,false_or]
   split<;>simp
theorem mapP_is (L:List (Int×Int)):∃ D:List (Int×Int),mapP L=D.map (fun q=>(kP q,AV.bool true))∧∀ p,p∈D↔p∈L:=by
 have key:∀ (L D:List (Int×Int)),∃ D':List (Int×Int),L.foldl (fun es p=>putM (kP p) (.bool true) es) (D.map fun q=>(kP q,AV.bool true))=D'.map (fun q=>(kP q,AV.bool true))∧∀ p,p∈D'↔(p∈D∨p∈L):=by
  intro L
  induction L with
  | nil=>intro D;exact ⟨D,rfl,by simp⟩
  | cons x L ih =>
   intro D
   rw [List.foldl_cons,putPq]
   obtain ⟨D',h1,h2⟩:=ih (if x∈D then D else D++[x])
   refine ⟨D',h1,fun p=>?_⟩
   rw [h2]
   split
   ·rename_i hx
    simp only [List.mem_cons]
    constructor
    ·rintro (h | h)
     ·exact .inl h
     ·exact .inr (.inr h)
    ·rintro (h | rfl | h)
     ·exact .inl h
     ·exact .inl hx
     ·exact .inr h
   ·simp only [List.mem_append,List.mem_cons,List.not_mem_nil,or_false,or_assoc]
 obtain ⟨D,h1,h2⟩:=key L []
 exact ⟨D,h1,by simpa using h2⟩
theorem mapP_snoc (L:List (Int×Int)) (p:Int×Int):putM (kP p) (.bool true) (mapP L)=mapP (L++[p]):=by
 simp only [mapP,List.foldl_append,List.foldl_cons,List.foldl_nil]
theorem wa_pairs (b:Nat) (H:Heap):zA8 cfg0 zA0 false 66 [.ptr b 0] H none=some ⟨.ret (.func (.func 77) [] [.ptr H.length 0]),H++[.box (.ptr b 0)],none⟩:=by
 refine (zA1 fn66 rfl (by simp [Tryz.f66])).trans ?_
 simp -implicitDefEqProofs (maxSteps:=1000000) (disch:=first|rfl|omega|assumption) only [go_sem,ltT,ltF,leT]
 done
theorem wa_told {w:Wm} (ho:w.Ok) {vr:AV} {b:Nat} (hb:H[b]? = some (.box (w.av vr))) (hr:SlOk H 4 vr (w.rs.map rdA)) (hg:goodL w≠[]) :
  ∃ G,zA8 cfg0 zA0 false 34 [.ptr b 0] H none=some ⟨.ret (.map H.length),H++(.map 81 (mapP (goodL w))::G),none⟩:=by
 have hbl:=(List.getElem?_eq_some_iff.1 hb).1
 obtain ⟨e,he⟩:∃ e:Env,e=[(7,.func (.func 77) [] [.ptr (H.length+2) 0]),(6,.ptr b 0),(3,.ptr (H.length+1) 0),(5,.map H.length),(2,.nilmap),(0,.ptr b 0)]:=⟨_,rfl⟩
 have e3:e.get 3=.ptr (H.length+1) 0:=by rw [he];rfl
 have e7:e.get 7=.func (.func 77) [] [.ptr (H.length+2) 0]:=by rw [he];rfl
 have hit:=pairs_it ho (vr:=vr) (b:=b) (pb:=H.length+2) (N:=H.length+5) (y:=H.length+4) (W:=fun L=>H++[.map 81 (mapP L),.box (.map H.length),.box (.ptr b 0),.dfr,.loop (zAq Tryz.f34 34 0 e (H.length+3))])
  ⟨fun L=>by simp,by omega,fun L=>by rw [List.getElem?_append_left hbl];exact hb,fun L=>by simp,fun L=>hr.app _,fun base L n c G=>by
   have hp:=mapP_snoc L (n,c)
   simp only [kP] at hp
   simp only [zAq,zAo,List.nil_append,List.append_nil,List.cons_append,List.getElem?_cons_zero,List.getElem?_cons_succ,Tryz.f34]
   simp -implicitDefEqProofs (maxSteps:=1000000) (disch:=first|rfl|omega|assumption) only [go_sem,ltT,ltF,leT,callV_yield,e3,hp]
   done⟩
 have hm0:mapP []=[]:=rfl
 have hlt:(0:Int)<(mapP (goodL w)).length:=by
  obtain ⟨D,h1,h2⟩:=mapP_is (goodL w)
  obtain ⟨p,r,hp⟩:=List.exists_cons_of_ne_nil hg
  have:p∈D:=(h2 p).2 (by rw [hp];simp)
  have:=List.length_pos_of_mem this
  rw [h1,List.length_map]
  omega
 have hpa:=fun G:Heap=>wa_pairs b G
 refine ⟨[.box (.map H.length),.box (.ptr b 0),.dead,.loop { zAq Tryz.f34 34 0 e (H.length+3) with state:=.exhausted }],?_⟩
 simp only [zAq,zAo,List.nil_append,List.append_nil,List.cons_append,List.getElem?_cons_zero,List.getElem?_cons_succ,Tryz.f34,hm0] at hit
 simp only [zAq,zAo,List.nil_append,List.append_nil,List.cons_append,List.getElem?_cons_zero,List.getElem?_cons_succ,Tryz.f34]
 refine (zA1 fn34 rfl (by simp [Tryz.f34])).trans ?_
 simp -implicitDefEqProofs (maxSteps:=1000000) (disch:=first|rfl|omega|assumption) only [go_sem,ltT,ltF,leT,hpa,← he,e3,e7,hit,hlt,wa_ask]
 done
def stopN (m c off:Int):Nat→Nat
 | 0=>0
 | n+1=>if grW m c (-((n+1:Nat):Int)) < -off then stopN m c off n else n+1
theorem stopN_le (m c off:Int):∀ n,stopN m c off n≤n
 | 0=>Nat.le_refl _
 | n+1=>by
  have:=stopN_le m c off n
  simp only [stopN]
  split<;>omega
theorem grW_mono {m c:Int} (hm:0≤m) (hc:0≤c) {s t:Int} (h:s≤t):grW m c s≤grW m c t:=by
 rw [grW_div,grW_div]
 have:m*c*s≤m*c*t:=Int.mul_le_mul_of_nonneg_left h (Int.mul_nonneg hm hc)
 exact Int.ediv_le_ediv (by omega) this
theorem stopN_fix {m c off:Int} (hm:0≤m) (hc:0≤c):∀ n,stopN m c off n=n∨∀ k,k≥n→grW m c (-((k:Nat):Int)) < -off
 | 0=>.inl rfl
 | n+1=>by
  simp only [stopN]
  split
  ·rename_i h
   refine .inr fun k hk=>?_
   have:=grW_mono hm hc (s := -((k:Nat):Int)) (t := -((n+1:Nat):Int)) (by omega)
   omega
  ·exact .inl rfl
theorem stopN_min {m c off:Int} (hm:0≤m) (hc:0≤c):∀ (d n:Nat),stopN m c off n=min n (stopN m c off (n+d))
 | 0,n=>by have:=stopN_le m c off n;rw [Nat.add_zero];omega
 | d+1,n=>by
  have ih:=stopN_min (m:=m) (c:=c) (off:=off) hm hc d n
  have h1:stopN m c off (n+(d+1))=if grW m c (-((n+d+1:Nat):Int)) < -off then stopN m c off (n+d) else n+d+1:=rfl
  rw [h1]
  split
  ·exact ih
  ·rename_i hb
   rcases stopN_fix (off:=off) hm hc n with h | h
   ·rw [h];omega
   ·exact absurd (h (n+d+1) (by omega)) hb
def roomN (m off:Int) (D:List (Int×Int)):Nat:=D.foldl (fun n p=>min n (stopN m p.2 off 100)) 100
theorem foldmin_le (f:Int×Int→Nat):∀ (D:List (Int×Int)) (n:Nat),D.foldl (fun n p=>min n (f p)) n≤n
 | [],n=>Nat.le_refl _
 | p::D,n=>by
  have:=foldmin_le f D (min n (f p))
  rw [List.foldl_cons]
  omega
theorem room_perm {m off:Int} {D D':List (Int×Int)} (h:D.Perm D'):roomN m off D=roomN m off D' :=
 h.foldl_eq' (fun x _ y _ z=>by omega) _
abbrev dR (N:Nat):List ADefer:=[.fn (.func 31) [.ptr (N+1) 0] []]
theorem ro_in {w:Wm} (ho:w.Ok) {vr:AV} {off:Int} (hoff:0≤off∧off≤30000) {K:Heap} {l8 it:Nat} {p:Int×Int} (hp : -1000≤p.1∧p.1≤1000∧0≤p.2∧p.2≤20) (h2:K[H.length]? = some (.box (w.av vr))) (h8:K[l8]? = some (.box (kP p))) {D:Done} {n0:Nat}
  (hend:∀ E:Env,E.get 1=I off→E.get 2=.ptr H.length 0→E.get 5=.ptr (H.length+1) 0→E.get 7=I (stopN w.mark p.2 off n0)→E.get 15=.ptr it 0→zAh cfg0 zA0 ⟨11,none,false,H.length⟩ (zA7 Tryz.f11 5) ⟨E,dR H.length,K,none⟩=some D) :
  ∀ n:Nat,n≤100→stopN w.mark p.2 off n=stopN w.mark p.2 off n0→∀ E:Env,E.get 1=I off→E.get 2=.ptr H.length 0→E.get 5=.ptr (H.length+1) 0→E.get 7=I n→E.get 8=.ptr l8 0→E.get 15=.ptr it 0 →
   zAh cfg0 zA0 ⟨11,none,false,H.length⟩ (zA7 Tryz.f11 7) ⟨E,dR H.length,K,none⟩=some D:=by
 have hk':True:=trivial
 have hm:=ho.mark
 obtain ⟨p1,p2⟩:=p
 simp only [kP] at h8 hp
 simp only [Wm.av] at h2
 intro n
 induction n with
 | zero =>
  intro hn hs E g1 g2 g5 g7 g8 g15
  have hz:¬ ((0:Nat):Int)>0:=by omega
  have hs0:stopN w.mark p2 off n0=0:=by rw [← hs];rfl
  rw [hs0] at hend
  simp only [zAb,zA4,zA7,zAa,zA3,↓reduceIte,Option.some.injEq,Nat.reduceEqDiff,reduceCtorEq,Tryz.f11]
  rw [zA2]
  simp -implicitDefEqProofs (maxSteps:=1000000) (disch:=first|rfl|omega|assumption) only [go_sem,g1,g2,g5,g7,g8,g15,ltT,ltF,leT,hk',hz,h2,h8]
  exact hend _ (by exact g1) (by exact g2) (by exact g5) (by exact g7) (by exact g15)
 | succ n ih =>
  intro hn hs E g1 g2 g5 g7 g8 g15
  have hz:(0:Int)<((n+1:Nat):Int):=by omega
  have hg:=fun G=>wa_grows (m:=w.mark) (c:=p2) (t:=0-((n+1:Nat):Int)) (n:=p1) (by omega) (by omega) (by omega) G
  have hst:stopN w.mark p2 off (n+1)=if grW w.mark p2 (-((n+1:Nat):Int)) < -off then stopN w.mark p2 off n else n+1:=rfl
  have hne:IntKind.i64.wrap (-((n+1:Nat):Int)) = -((n+1:Nat):Int):=w64 (by omega) (by omega)
  have hno:IntKind.i64.wrap (-off) = -off:=w64 (by omega) (by omega)
  have hn1:IntKind.i64.wrap (((n+1:Nat):Int)-1)=(n:Int):=by rw [w64 (by omega) (by omega)];omega
  rw [hst] at hs
  by_cases hb:grW w.mark p2 (-((n+1:Nat):Int)) < -off
  ·rw [if_pos hb] at hs
   have hb':grW w.mark p2 (0-((n+1:Nat):Int))<0-off:=by rw [show (0:Int)-((n+1:Nat):Int) = -((n+1:Nat):Int) by omega];omega
   have key:=ih (by omega) hs
   simp only [zAb,zA4,zA7,zAa,zA3,↓reduceIte,Option.some.injEq,Nat.reduceEqDiff,reduceCtorEq,Tryz.f11]
   rw [zA2]
   simp -implicitDefEqProofs (maxSteps:=1000000) (disch:=first|rfl|omega|assumption) only [go_sem,g1,g2,g5,g7,g8,g15,ltT,ltF,leT,hk',hz,h2,h8,hg,hn1,hb']
   exact key _ (by exact g1) (by exact g2) (by exact g5) (by rfl) (by exact g8) (by exact g15)
  ·rw [if_neg hb] at hs
   have hb':¬ grW w.mark p2 (0-((n+1:Nat):Int))<0-off:=by rw [show (0:Int)-((n+1:Nat):Int) = -((n+1:Nat):Int) by omega];omega
   rw [← hs] at hend
   simp only [zAb,zA4,zA7,zAa,zA3,↓reduceIte,Option.some.injEq,Nat.reduceEqDiff,reduceCtorEq,Tryz.f11]
   rw [zA2]
   simp -implicitDefEqProofs (maxSteps:=1000000) (disch:=first|rfl|omega|assumption) only [go_sem,g1,g2,g5,g7,g8,g15,ltT,ltF,leT,hk',hz,h2,h8,hg,hn1,hb']
   exact hend _ (by exact g1) (by exact g2) (by exact g5) (by exact g7) (by exact g15)
def enP (D:List (Int×Int)):List (AV×AV):=D.map fun q=>(kP q,AV.bool true)
theorem enP_at {D:List (Int×Int)} {i:Nat} (hi:i<D.length):(enP D).getD i (.undef,.undef)=(kP (D.getD i (0,0)),.bool true):=by simp [enP,hi]
theorem enP_at2 {D:List (Int×Int)} {i:Nat} (hi:i<D.length):(enP D)[i]? = some (kP (D.getD i (0,0)),.bool true):=by simp [enP,hi]
theorem enP_len (D:List (Int×Int)):(enP D).length=D.length:=List.length_map _
def atD (D:List (Int×Int)) (seen:List Nat):List (Int×Int):=seen.map fun i=>D.getD i (0,0)
theorem atD_perm {D:List (Int×Int)} {seen:List Nat} (h:seen.Perm (List.range D.length)):(atD D seen).Perm D:=by
 have h2:(List.range D.length).map (fun i=>D.getD i (0,0))=D:=by
  apply List.ext_getElem
  ·simp
  ·intro i h1 h2
   simp [h2]
 have:=h.map fun i=>D.getD i (0,0)
 rw [h2] at this
 exact this
theorem roomN_le (m off:Int) (D:List (Int×Int)):roomN m off D≤100:=foldmin_le _ D 100
theorem ro_out {w:Wm} (ho:w.Ok) {vr:AV} (hr:SlOk H 4 vr (w.rs.map rdA)) {off:Int} (hoff:0≤off∧off≤30000) {D:List (Int×Int)} (hD:∀ p∈D,-1000≤p.1∧p.1≤1000∧0≤p.2∧p.2≤20) {m it:Nat} (h1:H.length+2≤it) (n1:it≠m) :
  ∀ (q:Nat) (seen rest:List Nat),rest.length=q→Met D.length seen rest→∀ K:Heap,Kp (H++[.box (w.av vr),.box (I 0)]) K→K[it]? = some (.iter m D.length seen)→K[m]? = some (.map 81 (enP D)) →
   ∀ E:Env,E.get 1=I off→E.get 2=.ptr H.length 0→E.get 5=.ptr (H.length+1) 0→E.get 7=I (roomN w.mark off (atD D seen))→E.get 15=.ptr it 0 →
   zAh cfg0 zA0 ⟨11,none,false,H.length⟩ (zA7 Tryz.f11 5) ⟨E,dR H.length,K,none⟩=some ⟨.ret (.tup [I (roomN w.mark off D),I 0]),H++[.box (w.av vr),.box (I 0)],none⟩:=by
 have hk':True:=trivial
 have t2:=hr.ltn 2
 have hm:=ho.mark
 intro q
 induction q with
 | zero =>
  intro seen rest hq hmet K hK k1 k2 E g1 g2 g5 g7 g15
  simp only [zAb,zA4,zA7,zAa,zA3,↓reduceIte,Option.some.injEq,Nat.reduceEqDiff,reduceCtorEq,Tryz.f11]
  rw [zA2]
  simp -implicitDefEqProofs (maxSteps:=1000000) (disch:=first|rfl|omega|assumption) only [go_sem,g1,g2,g5,g7,g15,ltT,ltF,leT,hk']
  refine exec_nx (e:=E) (df:=dR H.length) (H:=K) (pn:=none) (n:=D.length) (m:=m) (seen:=seen) (li:=it) (kt:=81) (es:=enP D) (by simp -implicitDefEqProofs (maxSteps:=1000000) (disch:=first|rfl|omega|assumption) only [go_sem,g1,g2,g5,g7,g15,ltT,ltF,leT,hk']) (by simp -implicitDefEqProofs (maxSteps:=1000000) (disch:=first|rfl|omega|assumption) only [go_sem,g1,g2,g5,g7,g15,ltT,ltF,leT,hk']) k1 k2 (enP_len D) ?_ ?_
  ·intro hall
   have hre:=hmet.fin hall
   rw [hre] at hmet
   have hset:K.set it (.iter m D.length seen)=K:=by
    obtain ⟨hl1,hl2⟩:=List.getElem?_eq_some_iff.1 k1
    rw [← hl2]
    exact List.set_getElem_self hl1
   rw [hset]
   have hrm:=room_perm (m:=w.mark) (off:=off) (atD_perm hmet.done)
   rw [hrm] at g7
   have htk:K.take (H.length+2)=H++[.box (.agg [I w.mark,I w.n1,I w.n2,I w.c1,I w.c2,vr]),.box (I 0)]:=by
    have:=hK
    unfold Kp at this
    simpa [Wm.av] using this
   simp only [Wm.av]
   simp -implicitDefEqProofs (maxSteps:=1000000) (disch:=first|rfl|omega|assumption) only [go_sem,g1,g2,g5,g7,g15,ltT,ltF,leT,hk',htk,t2,wa_ansn]
   done
  ·intro i hi hs
   obtain ⟨rest',h1,h2⟩:=hmet.go hi hs
   omega
 | succ q ih =>
  intro seen rest hq hmet K hK k1 k2 E g1 g2 g5 g7 g15
  simp only [zAb,zA4,zA7,zAa,zA3,↓reduceIte,Option.some.injEq,Nat.reduceEqDiff,reduceCtorEq,Tryz.f11]
  rw [zA2]
  simp -implicitDefEqProofs (maxSteps:=1000000) (disch:=first|rfl|omega|assumption) only [go_sem,g1,g2,g5,g7,g15,ltT,ltF,leT,hk']
  refine exec_nx (e:=E) (df:=dR H.length) (H:=K) (pn:=none) (n:=D.length) (m:=m) (seen:=seen) (li:=it) (kt:=81) (es:=enP D) (by simp -implicitDefEqProofs (maxSteps:=1000000) (disch:=first|rfl|omega|assumption) only [go_sem,g1,g2,g5,g7,g15,ltT,ltF,leT,hk']) (by simp -implicitDefEqProofs (maxSteps:=1000000) (disch:=first|rfl|omega|assumption) only [go_sem,g1,g2,g5,g7,g15,ltT,ltF,leT,hk']) k1 k2 (enP_len D) ?_ ?_
  ·intro hall
   have hre:=hmet.fin hall
   rw [hre] at hq
   simp at hq
  ·intro i hi hns
   obtain ⟨rest',hm1,hm2⟩:=hmet.go hi hns
   have hat:=enP_at hi
   have hat2:=enP_at2 hi
   have hlm:=enP_len D
   have hpm:D.getD i (0,0)∈D:=by rw [List.getD_eq_getElem?_getD,List.getElem?_eq_getElem hi];exact List.getElem_mem hi
   have hpb:=hD _ hpm
   have key:=ih (seen++[i]) rest' (by omega) hm1
   have hv:roomN w.mark off (atD D (seen++[i]))=stopN w.mark (D.getD i (0,0)).2 off (roomN w.mark off (atD D seen)):=by
    have hle:=roomN_le w.mark off (atD D seen)
    have:=stopN_min (m:=w.mark) (c:=(D.getD i (0,0)).2) (off:=off) (by omega) (by omega) (100-roomN w.mark off (atD D seen)) (roomN w.mark off (atD D seen))
    rw [show roomN w.mark off (atD D seen)+(100-roomN w.mark off (atD D seen))=100 by omega] at this
    rw [this]
    simp only [roomN,atD,List.map_append,List.foldl_append,List.map_cons,List.map_nil,List.foldl_cons,List.foldl_nil]
   rw [hv] at key
   have hle:=roomN_le w.mark off (atD D seen)
   generalize roomN w.mark off (atD D seen)=v at *
   obtain ⟨p,hp⟩:∃ p,D.getD i (0,0)=p:=⟨_,rfl⟩
   rw [hp] at hat hat2 hpb key
   rw [hat]
   have il:=(List.getElem?_eq_some_iff.1 k1).1
   have q1:(K.set it (.iter m D.length (seen++[i])))[it]? = some (.iter m D.length (seen++[i])):=by rw [List.getElem?_set_self il]
   have q2:(K.set it (.iter m D.length (seen++[i])))[m]? = some (.map 81 (enP D)):=by rw [List.getElem?_set_ne n1];exact k2
   have hK1:=hK.set (show (H++[AO.box (w.av vr),AO.box (I 0)]).length≤it by simpa using h1) (.iter m D.length (seen++[i]))
   generalize K.set it (.iter m D.length (seen++[i]))=K1 at q1 q2 hK1 ⊢
   have p1:=(List.getElem?_eq_some_iff.1 q1).1
   have p2:=(List.getElem?_eq_some_iff.1 q2).1
   have hN:(K1++[.box (kP p)])[H.length]? = some (.box (w.av vr)):=by
    rw [(hK1.app _).get (by simp)]
    simp
   have hin:=ro_in ho hoff (p:=p) hpb (K:=K1++[.box (kP p)]) (l8:=K1.length) (it:=it) hN (by simp) (n0:=v)
    (fun E e1 e2 e5 e7 e15=>key (K1++[.box (kP p)]) (hK1.app _) (by rw [List.getElem?_append_left p1];exact q1) (by rw [List.getElem?_append_left p2];exact q2) E e1 e2 e5 e7 e15) v hle rfl
   clear key ih
   obtain ⟨pa,pc⟩:=p
   simp only [kP] at *
   simp -implicitDefEqProofs (maxSteps:=1000000) (disch:=first|rfl|omega|assumption) only [go_sem,g1,g2,g5,g7,g15,ltT,ltF,leT,hk',q1,q2,hlm,hat2,zA6 p1,zA6 p2]
   exact hin _ (by exact g1) (by exact g2) (by exact g5) (by exact g7) (by rfl) (by exact g15)
theorem room_iff (f:Int×Int→Nat):∀ (D:List (Int×Int)) (n k:Nat),k≤D.foldl (fun n p=>min n (f p)) n↔(k≤n∧∀ p∈D,k≤f p)
 | [],n,k=>by simp
 | p::D,n,k=>by
  rw [List.foldl_cons,room_iff f D]
  simp only [List.mem_cons,forall_eq_or_imp]
  constructor
  ·rintro ⟨h1,h2⟩;exact ⟨by omega,by omega,h2⟩
  ·rintro ⟨h1,h2,h3⟩;exact ⟨by omega,h3⟩
theorem room_ext {m off:Int} {D D':List (Int×Int)} (h:∀ p,p∈D↔p∈D'):roomN m off D=roomN m off D':=by
 have key:∀ k,k≤roomN m off D↔k≤roomN m off D':=fun k=>by
  simp only [roomN,room_iff]
  constructor
  ·rintro ⟨h1,h2⟩;exact ⟨h1,fun p hp=>h2 p ((h p).2 hp)⟩
  ·rintro ⟨h1,h2⟩;exact ⟨h1,fun p hp=>h2 p ((h p).1 hp)⟩
 exact Nat.le_antisymm ((key _).1 (Nat.le_refl _)) ((key _).2 (Nat.le_refl _))
theorem goodK_mem {w:Wm} {n:Int} {p:Int×Int}:∀ (k j:Nat),p∈goodK w n j k↔p.1=n∧(w.c1+j≤p.2∧p.2<w.c1+j+k)∧badB w p=false
 | 0,j=>by simp [goodK];intro h1 h2 h3;omega
 | k+1,j=>by
  have ih:=goodK_mem (w:=w) (n:=n) (p:=p) k (j+1)
  simp only [goodK,List.mem_append,ih]
  obtain ⟨p1,p2⟩:=p
  by_cases hb:badB w (n,w.c1+(j:Int))=true
  ·simp only [hb,if_true,List.not_mem_nil,false_or]
   constructor
   ·rintro ⟨h1,h2,h3⟩;exact ⟨h1,by omega,h3⟩
   ·rintro ⟨h1,h2,h3⟩
    refine ⟨h1,?_,h3⟩
    have:p2≠w.c1+j:=by
     rintro rfl
     try simp only at h1
     rw [h1,hb] at h3
     cases h3
    try simp only at h2 ⊢
    omega
  ·have hb':badB w (n,w.c1+(j:Int))=false:=by simpa using hb
   simp only [hb',Bool.false_eq_true,if_false,List.mem_singleton,Prod.mk.injEq]
   constructor
   ·rintro (⟨rfl,rfl⟩ | ⟨h1,h2,h3⟩)
    ·exact ⟨rfl,by omega,hb'⟩
    ·exact ⟨h1,by omega,h3⟩
   ·rintro ⟨h1,h2,h3⟩
    by_cases e:p2=w.c1+j
    ·exact .inl ⟨h1,e⟩
    ·exact .inr ⟨h1,(by omega:w.c1+((j+1:Nat):Int)≤p2∧p2<w.c1+((j+1:Nat):Int)+k),h3⟩
theorem goodJ_mem {w:Wm} {p:Int×Int}:∀ (k j:Nat),p∈goodJ w j k↔(w.n1+j≤p.1∧p.1<w.n1+j+k)∧(w.c1≤p.2∧p.2<w.c1+anyN w.c1 w.c2)∧badB w p=false
 | 0,j=>by simp [goodJ];intro h1 h2 h3;omega
 | k+1,j=>by
  have ih:=goodJ_mem (w:=w) (p:=p) k (j+1)
  simp only [goodJ,List.mem_append,ih,goodK_mem]
  constructor
  ·rintro (⟨h1,h2,h3⟩ | ⟨h1,h2,h3⟩)
   ·exact ⟨by omega,by omega,h3⟩
   ·exact ⟨by omega,h2,h3⟩
  ·rintro ⟨h1,h2,h3⟩
   by_cases e:p.1=w.n1+j
   ·exact .inl ⟨e,by omega,h3⟩
   ·exact .inr ⟨by omega,h2,h3⟩
theorem goodL_mem {w:Wm} (ho:w.Ok) {p:Int×Int}:p∈goodL w↔(w.n1≤p.1∧p.1≤w.n2)∧(w.c1≤p.2∧p.2≤w.c2)∧badB w p=false:=by
 have h1:=ho.len
 have h2:=ho.co
 simp only [goodL,goodJ_mem,anyN]
 constructor
 ·rintro ⟨h1,h2,h3⟩;exact ⟨by omega,by omega,h3⟩
 ·rintro ⟨h1,h2,h3⟩;exact ⟨by omega,by omega,h3⟩
theorem wa_Room {w:Wm} (ho:w.Ok) {vr:AV} (hr:SlOk H 4 vr (w.rs.map rdA)) {off:Int} (hoff:0≤off∧off≤30000) (hg:goodL w≠[]) :
  zA8 cfg0 zA0 false 11 [w.av vr,I off] H none=some ⟨.ret (.tup [I (roomN w.mark off (goodL w)),I 0]),H,none⟩:=by
 have hs1:=hr.scal
 have h0:=fun G=>wa_within off 0 30000 G
 rw [show wi off 0 30000=true by simp only [wi,Bool.and_eq_true,decide_eq_true_eq];omega] at h0
 have hop:=wa_open (H:=H++[.box (w.av vr),.box (I 0)]) ho (hr.app _)
 obtain ⟨G,hto⟩:=wa_told (H:=H++[.box (w.av vr),.box (I 0),.box (w.av vr),.box (w.av vr)]) ho (vr:=vr) (b:=H.length+3) (by simp) (hr.app _) hg
 obtain ⟨D,hD1,hD2⟩:=mapP_is (goodL w)
 have hDe:mapP (goodL w)=enP D:=hD1
 rw [hDe] at hto
 have hroom:roomN w.mark off (goodL w)=roomN w.mark off D:=room_ext fun p=>(hD2 p).symm
 rw [hroom]
 have hDb:∀ p∈D,-1000≤p.1∧p.1≤1000∧0≤p.2∧p.2≤20:=fun p hp=>by
  have h1:=(goodL_mem ho).1 ((hD2 p).1 hp)
  have h2:=ho.len
  have h3:=ho.co
  omega
 have km:(H++[AO.box (w.av vr),.box (I 0),.box (w.av vr),.box (w.av vr)]++(.map 81 (enP D)::G))[H.length+4]? = some (.map 81 (enP D)):=by simp
 have kp:Kp (H++[.box (w.av vr),.box (I 0)]) (H++[AO.box (w.av vr),.box (I 0),.box (w.av vr),.box (w.av vr)]++(.map 81 (enP D)::G)):=by
  have:=(Kp.refl (H++[AO.box (w.av vr),.box (I 0)])).app ([AO.box (w.av vr),.box (w.av vr)]++(.map 81 (enP D)::G))
  simpa using this
 generalize H++[AO.box (w.av vr),.box (I 0),.box (w.av vr),.box (w.av vr)]++(.map 81 (enP D)::G)=K0 at hto km kp
 have ml:=(List.getElem?_eq_some_iff.1 km).1
 have hlm:=enP_len D
 have key:=ro_out ho hr hoff hDb (m:=H.length+4) (it:=K0.length) (by omega) (by omega) _ [] _ rfl (Met.zero D.length) (K0++[.iter (H.length+4) D.length []]) (kp.app _) (by simp) (by rw [List.getElem?_append_left ml];exact km)
 have hr0:roomN w.mark off (atD D [])=100:=rfl
 rw [hr0] at key
 simp only [Wm.av,List.length_append,List.length_cons,List.length_nil,List.append_assoc,List.cons_append,List.nil_append,Nat.zero_add,Nat.add_assoc,Nat.reduceAdd] at hop hto key ⊢
 refine (zA1 fn11 rfl (by simp [Tryz.f11])).trans ?_
 simp -implicitDefEqProofs (maxSteps:=1000000) (disch:=first|rfl|omega|assumption) only [go_sem,ltT,ltF,leT,hs1,h0]
 rw [zAg];rotate_left;kernel_rfl
 simp -implicitDefEqProofs (maxSteps:=1000000) (disch:=first|rfl|omega|assumption) only [go_sem,ltT,ltF,leT,hs1,h0,hop,hto,km,hlm]
 refine Eq.trans (congrArg _ (key _ ?_ ?_ ?_ ?_ ?_)) ?_
 ·rfl
 ·rfl
 ·rfl
 ·rfl
 ·rfl
 simp -implicitDefEqProofs (maxSteps:=1000000) (disch:=first|rfl|omega|assumption) only [go_sem,ltT,ltF,leT]
 done
theorem law_span (lo hi:Int) (H:Heap):zA8 cfg0 zA0 false 10 [I lo,I hi] H none=some ⟨.ret (.agg [I lo,I hi]),H,none⟩:=by
 refine (zA1 fn10 rfl (by simp [Tryz.f10])).trans ?_
 simp -implicitDefEqProofs (maxSteps:=1000000) (disch:=first|rfl|omega|assumption) only [go_sem,ltT,ltF,leT]
 done
def bs4:List (Int×Int):=[(10,10),(12,13),(20,20),(31,32)]
def w4:Wm:=⟨50,-3,3,10,12,[⟨1,2,52,58⟩]⟩
theorem law_stack4 (H:Heap):zA8 cfg0 zA0 false 58 [] H none=some ⟨.ret (.agg [.sl true (bs4.map spA),I 1,I 2]),H,none⟩:=by
 simp only [bs4,List.map_cons,List.map_nil,spA]
 refine (zA1 fn58 rfl (by simp [Tryz.f58])).trans ?_
 simp -implicitDefEqProofs (maxSteps:=1000000) (disch:=first|rfl|omega|assumption) only [go_sem,ltT,ltF,leT,law_span]
 done
theorem law_warm4 (H:Heap):zA8 cfg0 zA0 false 59 [] H none=some ⟨.ret (w4.av (.sl true (w4.rs.map rdA))),H,none⟩:=by
 simp only [w4,Wm.av,List.map_cons,List.map_nil,rdA]
 refine (zA1 fn59 rfl (by simp [Tryz.f59])).trans ?_
 simp -implicitDefEqProofs (maxSteps:=1000000) (disch:=first|rfl|omega|assumption) only [go_sem,ltT,ltF,leT,law_span]
 done
theorem st4_ok (H:Heap):StOk H (.sl true (bs4.map spA)) bs4 (1,2):=⟨slS true bs4,by decide,by decide,by decide⟩
theorem sure4:sureL bs4 (1,2) (42,45)≠[]∧fewS bs4 (1,2) (42,45)=9:=by decide +kernel
theorem w4_ok:w4.Ok:=⟨by decide,by decide,by decide,by decide,fun r hr=>by
 have:r=⟨1,2,52,58⟩:=by simpa [w4] using hr
 subst this
 exact ⟨⟨by decide,by decide⟩,by decide,by decide⟩⟩
theorem good4:(goodL w4).isEmpty=false∧roomN w4.mark 60 (goodL w4)=1:=by decide +kernel
theorem law_awake4 (H:Heap):zA8 cfg0 zA0 false 22 [] H none=some ⟨.ret (.bool true),H,none⟩:=by
 have h1:=fun G:Heap=>st_Fewest (st4_ok G) (w:=(42,45)) (by decide)
 have h2:=fun G:Heap=>wa_Room (H:=G) w4_ok (slR G true w4.rs) (off:=60) (by decide) (by intro h;have:=good4.1;rw [h] at this;cases this)
 rw [good4.2] at h2
 simp only [sure4.1,if_false,sure4.2] at h1
 have h3:=law_stack4
 have h4:=law_warm4
 generalize AV.sl true (bs4.map spA)=v1 at h1 h3
 generalize w4.av (.sl true (w4.rs.map rdA))=v2 at h2 h4
 refine (zA1 fn22 rfl (by simp [Tryz.f22])).trans ?_
 simp -implicitDefEqProofs (maxSteps:=1000000) (disch:=first|rfl|omega|assumption) only [go_sem,ltT,ltF,leT,law_span,h1,h2,h3,h4]
 done
end Go.Ab
