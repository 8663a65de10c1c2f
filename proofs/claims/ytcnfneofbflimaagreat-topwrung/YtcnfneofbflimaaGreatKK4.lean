/- Warmth: Room. -/
import Derived.Test.YtcnfneofbflimaaGreatKK3
namespace Go.Ab
open Go.Proofs
set_option linter.unusedSimpArgs false
set_option linter.unusedVariables false
set_option maxRecDepth 100000
set_option maxHeartbeats 2000000
variable {H:Heap}
def enP (D:List (Int×Int)):List (AV×AV):=D.map fun q=>(kP q,AV.bool true)
theorem enP_at {D:List (Int×Int)} {i:Nat} (hi:i<D.length):(enP D).getD i (.undef,.undef)=(kP (D.getD i (0,0)),.bool true):=by simp [enP,hi]
theorem enP_at2 {D:List (Int×Int)} {i:Nat} (hi:i<D.length):(enP D)[i]? = some (kP (D.getD i (0,0)),.bool true):=by simp [enP,hi]
theorem enP_len (D:List (Int×Int)):(enP D).length=D.length:=List.length_map _
def atD (D:List (Int×Int)) (seen:List Nat):List (Int×Int):=seen.map fun i=>D.getD i (0,0)
theorem atD_perm {D:List (Int×Int)} {seen:List Nat} (h:seen.Perm (List.range D.length)):(atD D seen).Perm D:=by
 have h2:(List.range D.length).map (fun i=>D.getD i (0,0))=D:=by
  apply List.ext_getElem
  ·simp
  ·intro i h1 h2
   simp [h2]
 have:=h.map fun i=>D.getD i (0,0)
 rw [h2] at this
 exact this
theorem roomN_le (m off:Int) (D:List (Int×Int)):roomN m off D≤100:=foldmin_le _ D 100
theorem ro_out {w:Wm} (ho:w.Ok) {vr:AV} (hr:SlOk H 4 vr (w.rs.map rdA)) {off:Int} (hoff:0≤off∧off≤30000) {D:List (Int×Int)} (hD:∀ p∈D,-1000≤p.1∧p.1≤1000∧0≤p.2∧p.2≤20) {m it:Nat} (h1:H.length+2≤it) (n1:it≠m) :
  ∀ (q:Nat) (seen rest:List Nat),rest.length=q→Met D.length seen rest→∀ K:Heap,Kp (H++[.box (w.av vr),.box (I 0)]) K→K[it]? = some (.iter m D.length seen)→K[m]? = some (.map 171 (enP D)) →
   ∀ E:Env,E.get 1=I off→E.get 2=.ptr H.length 0→E.get 5=.ptr (H.length+1) 0→E.get 7=I (roomN w.mark off (atD D seen))→E.get 15=.ptr it 0 →
   zAe cfg0 zA2 ⟨62,none,false,H.length⟩ (zA5 Tryz.f62 5) ⟨E,dR H.length,K,none⟩=some ⟨.ret (.tup [I (roomN w.mark off D),I 0]),H++[.box (w.av vr),.box (I 0)],none⟩:=by
 have hk':True:=trivial
 have t2:=hr.ltn 2
 have hm:=ho.mark
 intro q
 induction q with
 | zero =>
  intro seen rest hq hmet K hK k1 k2 E g1 g2 g5 g7 g15
  simp only [zA6,zA4,zA5,zA7,zA3,↓reduceIte,Option.some.injEq,Nat.reduceEqDiff,reduceCtorEq,Tryz.f62]
  rw [zA0]
  simp -implicitDefEqProofs (maxSteps:=1000000) (disch:=first|rfl|omega|assumption) only [go_sem,g1,g2,g5,g7,g15,ltT,ltF,leT,hk']
  refine exec_nx (e:=E) (df:=dR H.length) (H:=K) (pn:=none) (n:=D.length) (m:=m) (seen:=seen) (li:=it) (kt:=171) (es:=enP D) (by simp -implicitDefEqProofs (maxSteps:=1000000) (disch:=first|rfl|omega|assumption) only [go_sem,g1,g2,g5,g7,g15,ltT,ltF,leT,hk']) (by simp -implicitDefEqProofs (maxSteps:=1000000) (disch:=first|rfl|omega|assumption) only [go_sem,g1,g2,g5,g7,g15,ltT,ltF,leT,hk']) k1 k2 (enP_len D) ?_ ?_
  ·intro hall
   have hre:=hmet.fin hall
   rw [hre] at hmet
   have hset:K.set it (.iter m D.length seen)=K:=by
    obtain ⟨hl1,hl2⟩:=List.getElem?_eq_some_iff.1 k1
    rw [← hl2]
    exact List.set_getElem_self hl1
   rw [hset]
   have hrm:=room_perm (m:=w.mark) (off:=off) (atD_perm hmet.done)
   rw [hrm] at g7
   have htk:K.take (H.length+2)=H++[.box (.agg [I w.mark,I w.n1,I w.n2,I w.c1,I w.c2,vr]),.box (I 0)]:=by
    have:=hK
    unfold Kp at this
    simpa [Wm.av] using this
   simp only [Wm.av]
   simp -implicitDefEqProofs (maxSteps:=1000000) (disch:=first|rfl|omega|assumption) only [go_sem,g1,g2,g5,g7,g15,ltT,ltF,leT,hk',htk,t2,wa_ansn]
   done
  ·intro i hi hs
   obtain ⟨rest',h1,h2⟩:=hmet.go hi hs
   omega
 | succ q ih =>
  intro seen rest hq hmet K hK k1 k2 E g1 g2 g5 g7 g15
  simp only [zA6,zA4,zA5,zA7,zA3,↓reduceIte,Option.some.injEq,Nat.reduceEqDiff,reduceCtorEq,Tryz.f62]
  rw [zA0]
  simp -implicitDefEqProofs (maxSteps:=1000000) (disch:=first|rfl|omega|assumption) only [go_sem,g1,g2,g5,g7,g15,ltT,ltF,leT,hk']
  refine exec_nx (e:=E) (df:=dR H.length) (H:=K) (pn:=none) (n:=D.length) (m:=m) (seen:=seen) (li:=it) (kt:=171) (es:=enP D) (by simp -implicitDefEqProofs (maxSteps:=1000000) (disch:=first|rfl|omega|assumption) only [go_sem,g1,g2,g5,g7,g15,ltT,ltF,leT,hk']) (by simp -implicitDefEqProofs (maxSteps:=1000000) (disch:=first|rfl|omega|assumption) only [go_sem,g1,g2,g5,g7,g15,ltT,ltF,leT,hk']) k1 k2 (enP_len D) ?_ ?_
  ·intro hall
   have hre:=hmet.fin hall
   rw [hre] at hq
   simp at hq
  ·intro i hi hns
   obtain ⟨rest',hm1,hm2⟩:=hmet.go hi hns
   have hat:=enP_at hi
   have hat2:=enP_at2 hi
   have hlm:=enP_len D
   have hpm:D.getD i (0,0)∈D:=by rw [List.getD_eq_getElem?_getD,List.getElem?_eq_getElem hi];exact List.getElem_mem hi
   have hpb:=hD _ hpm
   have key:=ih (seen++[i]) rest' (by omega) hm1
   have hv:roomN w.mark off (atD D (seen++[i]))=stopN w.mark (D.getD i (0,0)).2 off (roomN w.mark off (atD D seen)):=by
    have hle:=roomN_le w.mark off (atD D seen)
    have:=stopN_min (m:=w.mark) (c:=(D.getD i (0,0)).2) (off:=off) (by omega) (by omega) (100-roomN w.mark off (atD D seen)) (roomN w.mark off (atD D seen))
    rw [show roomN w.mark off (atD D seen)+(100-roomN w.mark off (atD D seen))=100 by omega] at this
    rw [this]
    simp only [roomN,atD,List.map_append,List.foldl_append,List.map_cons,List.map_nil,List.foldl_cons,List.foldl_nil]
   rw [hv] at key
   have hle:=roomN_le w.mark off (atD D seen)
   generalize roomN w.mark off (atD D seen)=v at *
   obtain ⟨p,hp⟩:∃ p,D.getD i (0,0)=p:=⟨_,rfl⟩
   rw [hp] at hat hat2 hpb key
   rw [hat]
   have il:=(List.getElem?_eq_some_iff.1 k1).1
   have q1:(K.set it (.iter m D.length (seen++[i])))[it]? = some (.iter m D.length (seen++[i])):=by rw [List.getElem?_set_self il]
   have q2:(K.set it (.iter m D.length (seen++[i])))[m]? = some (.map 171 (enP D)):=by rw [List.getElem?_set_ne n1];exact k2
   have hK1:=hK.set (show (H++[AO.box (w.av vr),AO.box (I 0)]).length≤it by simpa using h1) (.iter m D.length (seen++[i]))
   generalize K.set it (.iter m D.length (seen++[i]))=K1 at q1 q2 hK1 ⊢
   have p1:=(List.getElem?_eq_some_iff.1 q1).1
   have p2:=(List.getElem?_eq_some_iff.1 q2).1
   have hN:(K1++[.box (kP p)])[H.length]? = some (.box (w.av vr)):=by
    rw [(hK1.app _).get (by simp)]
    simp
   have hin:=ro_in ho hoff (p:=p) hpb (K:=K1++[.box (kP p)]) (l8:=K1.length) (it:=it) hN (by simp) (n0:=v)
    (fun E e1 e2 e5 e7 e15=>key (K1++[.box (kP p)]) (hK1.app _) (by rw [List.getElem?_append_left p1];exact q1) (by rw [List.getElem?_append_left p2];exact q2) E e1 e2 e5 e7 e15) v hle rfl
   clear key ih
   obtain ⟨pa,pc⟩:=p
   simp only [kP] at *
   simp -implicitDefEqProofs (maxSteps:=1000000) (disch:=first|rfl|omega|assumption) only [go_sem,g1,g2,g5,g7,g15,ltT,ltF,leT,hk',q1,q2,hlm,hat2,zAt p1,zAt p2]
   exact hin _ (by exact g1) (by exact g2) (by exact g5) (by exact g7) (by rfl) (by exact g15)
theorem room_iff (f:Int×Int→Nat):∀ (D:List (Int×Int)) (n k:Nat),k≤D.foldl (fun n p=>min n (f p)) n↔(k≤n∧∀ p∈D,k≤f p)
 | [],n,k=>by simp
 | p::D,n,k=>by
  rw [List.foldl_cons,room_iff f D]
  simp only [List.mem_cons,forall_eq_or_imp]
  constructor
  ·rintro ⟨h1,h2⟩;exact ⟨by omega,by omega,h2⟩
  ·rintro ⟨h1,h2,h3⟩;exact ⟨by omega,h3⟩
theorem room_ext {m off:Int} {D D':List (Int×Int)} (h:∀ p,p∈D↔p∈D'):roomN m off D=roomN m off D':=by
 have key:∀ k,k≤roomN m off D↔k≤roomN m off D':=fun k=>by
  simp only [roomN,room_iff]
  constructor
  ·rintro ⟨h1,h2⟩;exact ⟨h1,fun p hp=>h2 p ((h p).2 hp)⟩
  ·rintro ⟨h1,h2⟩;exact ⟨h1,fun p hp=>h2 p ((h p).1 hp)⟩
 exact Nat.le_antisymm ((key _).1 (Nat.le_refl _)) ((key _).2 (Nat.le_refl _))
theorem goodK_mem {w:Wm} {n:Int} {p:Int×Int}:∀ (k j:Nat),p∈goodK w n j k↔p.1=n∧(w.c1+j≤p.2∧p.2<w.c1+j+k)∧badB w p=false
 | 0,j=>by simp [goodK];intro h1 h2 h3;omega
 | k+1,j=>by
  have ih:=goodK_mem (w:=w) (n:=n) (p:=p) k (j+1)
  simp only [goodK,List.mem_append,ih]
  obtain ⟨p1,p2⟩:=p
  by_cases hb:badB w (n,w.c1+(j:Int))=true
  ·simp only [hb,if_true,List.not_mem_nil,false_or]
   constructor
   ·rintro ⟨h1,h2,h3⟩;exact ⟨h1,by omega,h3⟩
   ·rintro ⟨h1,h2,h3⟩
    refine ⟨h1,?_,h3⟩
    have:p2≠w.c1+j:=by
     rintro rfl
     try simp only at h1
     rw [h1,hb] at h3
     cases h3
    try simp only at h2 ⊢
    omega
  ·have hb':badB w (n,w.c1+(j:Int))=false:=by simpa using hb
   simp only [hb',Bool.false_eq_true,if_false,List.mem_singleton,Prod.mk.injEq]
   constructor
   ·rintro (⟨rfl,rfl⟩ | ⟨h1,h2,h3⟩)
    ·exact ⟨rfl,by omega,hb'⟩
    ·exact ⟨h1,by omega,h3⟩
   ·rintro ⟨h1,h2,h3⟩
    by_cases e:p2=w.c1+j
    ·exact .inl ⟨h1,e⟩
    ·exact .inr ⟨h1,(by omega:w.c1+((j+1:Nat):Int)≤p2∧p2<w.c1+((j+1:Nat):Int)+k),h3⟩
theorem goodJ_mem {w:Wm} {p:Int×Int}:∀ (k j:Nat),p∈goodJ w j k↔(w.n1+j≤p.1∧p.1<w.n1+j+k)∧(w.c1≤p.2∧p.2<w.c1+anyN w.c1 w.c2)∧badB w p=false
 | 0,j=>by simp [goodJ];intro h1 h2 h3;omega
 | k+1,j=>by
  have ih:=goodJ_mem (w:=w) (p:=p) k (j+1)
  simp only [goodJ,List.mem_append,ih,goodK_mem]
  constructor
  ·rintro (⟨h1,h2,h3⟩ | ⟨h1,h2,h3⟩)
   ·exact ⟨by omega,by omega,h3⟩
   ·exact ⟨by omega,h2,h3⟩
  ·rintro ⟨h1,h2,h3⟩
   by_cases e:p.1=w.n1+j
   ·exact .inl ⟨e,by omega,h3⟩
   ·exact .inr ⟨by omega,h2,h3⟩
theorem goodL_mem {w:Wm} (ho:w.Ok) {p:Int×Int}:p∈goodL w↔(w.n1≤p.1∧p.1≤w.n2)∧(w.c1≤p.2∧p.2≤w.c2)∧badB w p=false:=by
 have h1:=ho.len
 have h2:=ho.co
 simp only [goodL,goodJ_mem,anyN]
 constructor
 ·rintro ⟨h1,h2,h3⟩;exact ⟨by omega,by omega,h3⟩
 ·rintro ⟨h1,h2,h3⟩;exact ⟨by omega,by omega,h3⟩
theorem wa_Room {w:Wm} (ho:w.Ok) {vr:AV} (hr:SlOk H 4 vr (w.rs.map rdA)) {off:Int} (hoff:0≤off∧off≤30000) (hg:goodL w≠[]) :
  zA9 cfg0 zA2 false 62 [w.av vr,I off] H none=some ⟨.ret (.tup [I (roomN w.mark off (goodL w)),I 0]),H,none⟩:=by
 have hs1:=hr.scal
 have h0:=fun G=>wa_within off 0 30000 G
 rw [show wi off 0 30000=true by simp only [wi,Bool.and_eq_true,decide_eq_true_eq];omega] at h0
 have hop:=wa_open (H:=H++[.box (w.av vr),.box (I 0)]) ho (hr.app _)
 obtain ⟨G,hto⟩:=wa_told (H:=H++[.box (w.av vr),.box (I 0),.box (w.av vr),.box (w.av vr)]) ho (vr:=vr) (b:=H.length+3) (by simp) (hr.app _) hg
 obtain ⟨D,hD1,hD2⟩:=mapP_is (goodL w)
 have hDe:mapP (goodL w)=enP D:=hD1
 rw [hDe] at hto
 have hroom:roomN w.mark off (goodL w)=roomN w.mark off D:=room_ext fun p=>(hD2 p).symm
 rw [hroom]
 have hDb:∀ p∈D,-1000≤p.1∧p.1≤1000∧0≤p.2∧p.2≤20:=fun p hp=>by
  have h1:=(goodL_mem ho).1 ((hD2 p).1 hp)
  have h2:=ho.len
  have h3:=ho.co
  omega
 have km:(H++[AO.box (w.av vr),.box (I 0),.box (w.av vr),.box (w.av vr)]++(.map 171 (enP D)::G))[H.length+4]? = some (.map 171 (enP D)):=by simp
 have kp:Kp (H++[.box (w.av vr),.box (I 0)]) (H++[AO.box (w.av vr),.box (I 0),.box (w.av vr),.box (w.av vr)]++(.map 171 (enP D)::G)):=by
  have:=(Kp.refl (H++[AO.box (w.av vr),.box (I 0)])).app ([AO.box (w.av vr),.box (w.av vr)]++(.map 171 (enP D)::G))
  simpa using this
 generalize H++[AO.box (w.av vr),.box (I 0),.box (w.av vr),.box (w.av vr)]++(.map 171 (enP D)::G)=K0 at hto km kp
 have ml:=(List.getElem?_eq_some_iff.1 km).1
 have hlm:=enP_len D
 have key:=ro_out ho hr hoff hDb (m:=H.length+4) (it:=K0.length) (by omega) (by omega) _ [] _ rfl (Met.zero D.length) (K0++[.iter (H.length+4) D.length []]) (kp.app _) (by simp) (by rw [List.getElem?_append_left ml];exact km)
 have hr0:roomN w.mark off (atD D [])=100:=rfl
 rw [hr0] at key
 simp only [Wm.av,List.length_append,List.length_cons,List.length_nil,List.append_assoc,List.cons_append,List.nil_append,Nat.zero_add,Nat.add_assoc,Nat.reduceAdd] at hop hto key ⊢
 refine (zA1 fn62 rfl (by simp [Tryz.f62])).trans ?_
 simp -implicitDefEqProofs (maxSteps:=1000000) (disch:=first|rfl|omega|assumption) only [go_sem,ltT,ltF,leT,hs1,h0]
 rw [zAa];rotate_left;kernel_rfl
 simp -implicitDefEqProofs (maxSteps:=1000000) (disch:=first|rfl|omega|assumption) only [go_sem,ltT,ltF,leT,hs1,h0,hop,hto,km,hlm]
 refine Eq.trans (congrArg _ (key _ ?_ ?_ ?_ ?_ ?_)) ?_
 ·rfl
 ·rfl
 ·rfl
 ·rfl
 ·rfl
 simp -implicitDefEqProofs (maxSteps:=1000000) (disch:=first|rfl|omega|assumption) only [go_sem,ltT,ltF,leT]
 done
theorem law_span (lo hi:Int) (H:Heap):zA9 cfg0 zA2 false 6 [I lo,I hi] H none=some ⟨.ret (.agg [I lo,I hi]),H,none⟩:=by
 refine (zA1 fn6 rfl (by simp [Tryz.f6])).trans ?_
 simp -implicitDefEqProofs (maxSteps:=1000000) (disch:=first|rfl|omega|assumption) only [go_sem,ltT,ltF,leT]
 done
def bs4:List (Int×Int):=[(10,10),(12,13),(20,20),(31,32)]
def w4:Wm:=⟨50,-3,3,10,12,[⟨1,2,52,58⟩]⟩
theorem law_stack4 (H:Heap):zA9 cfg0 zA2 false 61 [] H none=some ⟨.ret (.agg [.sl true (bs4.map spA),I 1,I 2]),H,none⟩:=by
 simp only [bs4,List.map_cons,List.map_nil,spA]
 refine (zA1 fn61 rfl (by simp [Tryz.f61])).trans ?_
 simp -implicitDefEqProofs (maxSteps:=1000000) (disch:=first|rfl|omega|assumption) only [go_sem,ltT,ltF,leT,law_span]
 done
theorem law_warm4 (H:Heap):zA9 cfg0 zA2 false 63 [] H none=some ⟨.ret (w4.av (.sl true (w4.rs.map rdA))),H,none⟩:=by
 simp only [w4,Wm.av,List.map_cons,List.map_nil,rdA]
 refine (zA1 fn63 rfl (by simp [Tryz.f63])).trans ?_
 simp -implicitDefEqProofs (maxSteps:=1000000) (disch:=first|rfl|omega|assumption) only [go_sem,ltT,ltF,leT,law_span]
 done
theorem st4_ok (H:Heap):StOk H (.sl true (bs4.map spA)) bs4 (1,2):=⟨slS true bs4,by decide,by decide,by decide⟩
theorem sure4:sureL bs4 (1,2) (42,45)≠[]∧fewS bs4 (1,2) (42,45)=9:=by decide +kernel
theorem w4_ok:w4.Ok:=⟨by decide,by decide,by decide,by decide,fun r hr=>by
 have:r=⟨1,2,52,58⟩:=by simpa [w4] using hr
 subst this
 exact ⟨⟨by decide,by decide⟩,by decide,by decide⟩⟩
theorem good4:(goodL w4).isEmpty=false∧roomN w4.mark 60 (goodL w4)=1:=by decide +kernel
theorem law_awake4 (H:Heap):zA9 cfg0 zA2 false 24 [] H none=some ⟨.ret (.bool true),H,none⟩:=by
 have h1:=fun G:Heap=>st_Fewest (st4_ok G) (w:=(42,45)) (by decide)
 have h2:=fun G:Heap=>wa_Room (H:=G) w4_ok (slR G true w4.rs) (off:=60) (by decide) (by intro h;have:=good4.1;rw [h] at this;cases this)
 rw [good4.2] at h2
 simp only [sure4.1,if_false,sure4.2] at h1
 have h3:=law_stack4
 have h4:=law_warm4
 generalize AV.sl true (bs4.map spA)=v1 at h1 h3
 generalize w4.av (.sl true (w4.rs.map rdA))=v2 at h2 h4
 refine (zA1 fn24 rfl (by simp [Tryz.f24])).trans ?_
 simp -implicitDefEqProofs (maxSteps:=1000000) (disch:=first|rfl|omega|assumption) only [go_sem,ltT,ltF,leT,law_span,h1,h2,h3,h4]
 done
abbrev B16 (n:Int):AV:=.int .u16 n
def drawZ (us:List Int) (a lo hi:Int):Int:=if us.length=0 then lo else lo+(us.getD (a%(us.length:Int)).toNat 0+71*a)%(hi-lo+1)
theorem draw_bd {us:List Int} {a lo hi:Int} (h:lo≤hi):lo≤drawZ us a lo hi∧drawZ us a lo hi≤hi:=by
 simp only [drawZ]
 split
 ·omega
 ·have h1:=Int.emod_nonneg (us.getD (a%(us.length:Int)).toNat 0+71*a) (show hi-lo+1≠0 by omega)
  have h2:=Int.emod_lt_of_pos (us.getD (a%(us.length:Int)).toNat 0+71*a) (show 0<hi-lo+1 by omega)
  omega
theorem sl16 (fl:Bool) (us:List Int):SlOk H 1 (.sl fl (us.map B16)) (us.map B16):=⟨rfl,fun x hx=>by
 obtain ⟨i,_,rfl⟩:=List.mem_map.1 hx;rfl⟩
theorem law_draw {us:List Int} {fl:Bool} (hb:∀ i,i<us.length→0≤us.getD i 0∧us.getD i 0≤65535) (hl:us.length≤9223372036854775807) {p1 p2:Nat} {a:Int} (ha:0≤a∧a≤1000) (h1:H[p1]? = some (.box (I a))) (h2:H[p2]? = some (.box (.sl fl (us.map B16)))) (hpp:p1≠p2) {lo hi:Int} (hn : -1000≤lo∧lo≤hi∧hi≤1000) :
  zA9 cfg0 zA2 false 59 [.agg [I lo,I hi],.ptr p1 0,.ptr p2 0] H none=some ⟨.ret (I (drawZ us (a+1) lo hi)),H.set p1 (.box (I (a+1))),none⟩:=by
 have hl1:p1<H.length:=(List.getElem?_eq_some_iff.1 h1).1
 have hl2:p2<H.length:=(List.getElem?_eq_some_iff.1 h2).1
 have g1:∀ A,(H++A)[p1]? = some (.box (I a)):=fun A=>by rw [List.getElem?_append_left hl1];exact h1
 have g2:∀ A,(H++A).set p1 (.box (I (a+1)))=H.set p1 (.box (I (a+1)))++A:=fun A=>by rw [List.set_append_left _ _ hl1]
 have hsl:(H.set p1 (.box (I (a+1)))).length=H.length:=List.length_set
 have g3:∀ A,(H.set p1 (.box (I (a+1)))++A)[p2]? = some (.box (.sl fl (us.map B16))):=fun A=>by rw [List.getElem?_append_left (by rw [hsl];exact hl2),List.getElem?_set_ne hpp];exact h2
 have g4:∀ A,(H.set p1 (.box (I (a+1)))++A)[p1]? = some (.box (I (a+1))):=fun A=>by rw [List.getElem?_append_left (by rw [hsl];exact hl1),List.getElem?_set_self hl1]
 have g5:∀ A,(H.set p1 (.box (I (a+1)))++A)[H.length]? = A[0]? := fun A=>by rw [← hsl,get_at]
 have g6:∀ A,(H.set p1 (.box (I (a+1)))++A).take H.length=H.set p1 (.box (I (a+1))):=fun A=>by rw [← hsl,List.take_left]
 have hlm:(us.map B16).length=us.length:=List.length_map _
 have zn:¬ hi-lo+1=0:=by omega
 by_cases h0:us.length=0
 ·have hz:((us.length:Int)==0)=true:=by simp [h0]
  have e1:drawZ us (a+1) lo hi=lo:=by rw [drawZ,if_pos h0]
  rw [e1]
  refine (zA1 fn59 rfl (by simp [Tryz.f59])).trans ?_
  simp -implicitDefEqProofs (maxSteps:=1000000) (disch:=first|rfl|omega|assumption) only [go_sem,ltT,ltF,leT,g1,g2,g3,g4,g5,g6,hlm,hz]
  done
 ·have hz:((us.length:Int)==0)=false:=by simp [h0]
  have zl:¬ (us.length:Int)=0:=by omega
  have q0:=Int.emod_nonneg (a+1) zl
  have q1:=Int.emod_lt_of_pos (a+1) (show (0:Int)<us.length by omega)
  have e1:(a+1).tmod (us.length:Int)=(a+1)%(us.length:Int):=Int.tmod_eq_emod_of_nonneg (by omega)
  have hbx:=hb ((a+1)%(us.length:Int)).toNat (by omega)
  have e2:lo+(us.getD ((a+1)%(us.length:Int)).toNat 0+71*(a+1)).tmod (hi-lo+1)=drawZ us (a+1) lo hi:=by rw [drawZ,if_neg h0,Int.tmod_eq_emod_of_nonneg (by omega)]
  have hdb:=draw_bd (us:=us) (a:=a+1) hn.2.1
  have q2:=Int.emod_nonneg (us.getD ((a+1)%(us.length:Int)).toNat 0+71*(a+1)) (show hi-lo+1≠0 by omega)
  have q3:=Int.emod_lt_of_pos (us.getD ((a+1)%(us.length:Int)).toNat 0+71*(a+1)) (show 0<hi-lo+1 by omega)
  have q4:(us.getD ((a+1)%(us.length:Int)).toNat 0+71*(a+1)).tmod (hi-lo+1)=(us.getD ((a+1)%(us.length:Int)).toNat 0+71*(a+1))%(hi-lo+1):=Int.tmod_eq_emod_of_nonneg (by omega)
  obtain ⟨a1,a2,a3,a4,a5⟩:=(sl16 (H:=H.set p1 (.box (I (a+1)))) fl us).fF (d:=0)
  generalize drawZ us (a+1) lo hi=dz at *
  generalize (a+1)%(us.length:Int)=k at *
  obtain ⟨u,hu⟩:∃ u,us.getD k.toNat 0=u:=⟨_,rfl⟩
  rw [hu] at e2 hbx q2 q3 q4
  rw [← q4] at q2 q3
  have w1:IntKind.i64.wrap (lo+(u+71*(a+1)).tmod (hi-lo+1))=dz:=by rw [e2];exact w64 (by omega) (by omega)
  refine (zA1 fn59 rfl (by simp [Tryz.f59])).trans ?_
  simp -implicitDefEqProofs (maxSteps:=1000000) (disch:=first|rfl|omega|assumption) only [go_sem,ltT,ltF,leT,g1,g2,g3,g4,g5,g6,hlm,hz,zn,zl,e1]
  rw [zAa];rotate_left;kernel_rfl
  simp -implicitDefEqProofs (maxSteps:=1000000) (disch:=first|rfl|omega|assumption) only [go_sem,ltT,ltF,leT,g1,g2,g3,g4,g5,g6,hlm,hz,zn,zl,e1,a1,a2,a3,a4,hu,w1]
  done
theorem law_draws (v:AV) (hv:v.scalar=true) (hs:∃ b l,v=.sl b l) (H:Heap):zA9 cfg0 zA2 false 18 [v] H none=some ⟨.ret (.func (.func 59) [] [.ptr (H.length+1) 0,.ptr H.length 0]),H++[.box v,.box (I 0)],none⟩:=by
 obtain ⟨b,l,rfl⟩:=hs
 refine (zA1 fn18 rfl (by simp [Tryz.f18])).trans ?_
 simp -implicitDefEqProofs (maxSteps:=1000000) (disch:=first|rfl|omega|assumption) only [go_sem,ltT,ltF,leT]
 done
def badS (bs:List (Int×Int)) (i:Nat):Bool:=decide ((bs.getD i (0,0)).1<1)||(decide ((bs.getD i (0,0)).2<(bs.getD i (0,0)).1)||(decide (500<(bs.getD i (0,0)).2)||decide (6<(bs.getD i (0,0)).2-(bs.getD i (0,0)).1)))
def stB (bs:List (Int×Int)) (film:Int×Int):Bool:=decide (bs.length≤8)&&(decide (0≤film.1)&&(decide (film.1≤film.2)&&(decide (film.2≤5)&&!anyF (badS bs) 0 bs.length)))
theorem rs_loop {vb:AV} {bs:List (Int×Int)} {film:Int×Int} (h:SlOk H 2 vb (bs.map spA)) (hl:bs.length≤1000) (r:Bool) :
  ∀ (q j:Nat),j+q=bs.length→(!anyF (badS bs) j q)=r→∀ (G:Heap),∀ E:Env,E.get 1=.ptr H.length 0→E.get 3=I j →
  Option.map (zAd H.length) (zAe cfg0 zA2 ⟨7,none,false,H.length⟩ (zA5 Tryz.f7 4) ⟨E,[],H++(.box (.agg [vb,I film.1,I film.2])::G),none⟩)=some ⟨.ret (.bool r),H,none⟩:=by
 intro q
 obtain ⟨a1,a2,a3,a4,a5⟩:=h.fF (d:=(0,0))
 have t1:=h.ltn 1
 have l2:=h.len
 rw [List.length_map] at l2
 have hs1:=h.scal
 induction q with
 | zero =>
  intro j hj hr G E g1 g3
  have hk':¬ (j:Int)<((bs.length:Nat):Int):=by omega
  simp only [anyF,Bool.not_false] at hr
  subst hr
  simp only [zA6,zA4,zA5,zA7,zA3,↓reduceIte,Option.some.injEq,Nat.reduceEqDiff,reduceCtorEq,Tryz.f7]
  rw [zA0]
  simp -implicitDefEqProofs (maxSteps:=1000000) (disch:=first|rfl|omega|assumption) only [go_sem,g1,g3,ltT,ltF,leT,hk',t1,l2,hs1]
  done
 | succ q ih =>
  intro j hj hr G E g1 g3
  have hk':(j:Int)<((bs.length:Nat):Int):=by omega
  have hk2:j<bs.length:=by omega
  obtain ⟨⟨lo,hi⟩,hxe⟩:∃ x,bs.getD j (0,0)=x:=⟨_,rfl⟩
  have hrd:zAf (spA (lo,hi)).cells 0 ⟨.struct [(0,3),(1,3)],2,16,some (.agg #[.int .i64 0,.int .i64 0])⟩=some (.agg [I lo,I hi]):=rfl
  simp only [anyF,badS,hxe] at hr
  by_cases c1:lo<1
  ·simp only [c1,decide_true,Bool.true_or,Bool.not_true] at hr
   subst hr
   simp only [zA6,zA4,zA5,zA7,zA3,↓reduceIte,Option.some.injEq,Nat.reduceEqDiff,reduceCtorEq,Tryz.f7]
   rw [zA0]
   simp -implicitDefEqProofs (maxSteps:=1000000) (disch:=first|rfl|omega|assumption) only [go_sem,g1,g3,ltT,ltF,leT,hk',t1,l2,hs1,a1,a2,a3,a4,hxe,hrd,c1]
   done
  ·by_cases c2:hi<lo
   ·simp only [c1,c2,decide_true,decide_false,Bool.false_or,Bool.true_or,Bool.not_true] at hr
    subst hr
    simp only [zA6,zA4,zA5,zA7,zA3,↓reduceIte,Option.some.injEq,Nat.reduceEqDiff,reduceCtorEq,Tryz.f7]
    rw [zA0]
    simp -implicitDefEqProofs (maxSteps:=1000000) (disch:=first|rfl|omega|assumption) only [go_sem,g1,g3,ltT,ltF,leT,hk',t1,l2,hs1,a1,a2,a3,a4,hxe,hrd,c1,c2]
    done
   ·by_cases c3:500<hi
    ·simp only [c1,c2,c3,decide_true,decide_false,Bool.false_or,Bool.true_or,Bool.not_true] at hr
     subst hr
     simp only [zA6,zA4,zA5,zA7,zA3,↓reduceIte,Option.some.injEq,Nat.reduceEqDiff,reduceCtorEq,Tryz.f7]
     rw [zA0]
     simp -implicitDefEqProofs (maxSteps:=1000000) (disch:=first|rfl|omega|assumption) only [go_sem,g1,g3,ltT,ltF,leT,hk',t1,l2,hs1,a1,a2,a3,a4,hxe,hrd,c1,c2,c3]
     done
    ·by_cases c4:6<hi-lo
     ·simp only [c1,c2,c3,c4,decide_true,decide_false,Bool.false_or,Bool.true_or,Bool.not_true] at hr
      subst hr
      simp only [zA6,zA4,zA5,zA7,zA3,↓reduceIte,Option.some.injEq,Nat.reduceEqDiff,reduceCtorEq,Tryz.f7]
      rw [zA0]
      simp -implicitDefEqProofs (maxSteps:=1000000) (disch:=first|rfl|omega|assumption) only [go_sem,g1,g3,ltT,ltF,leT,hk',t1,l2,hs1,a1,a2,a3,a4,hxe,hrd,c1,c2,c3,c4]
      done
     ·simp only [c1,c2,c3,c4,decide_false,Bool.false_or] at hr
      have key:=ih (j+1) (by omega) hr [.box (.agg [I lo,I hi])]
      simp only [zA6,zA4,zA5,zA7,zA3,↓reduceIte,Option.some.injEq,Nat.reduceEqDiff,reduceCtorEq,Tryz.f7]
      rw [zA0]
      simp -implicitDefEqProofs (maxSteps:=1000000) (disch:=first|rfl|omega|assumption) only [go_sem,g1,g3,ltT,ltF,leT,hk',t1,l2,hs1,a1,a2,a3,a4,hxe,hrd,c1,c2,c3,c4]
      exact key _ (by rfl) (by rfl)
theorem ref_Stack {vb:AV} {bs:List (Int×Int)} {film:Int×Int} (h:SlOk H 2 vb (bs.map spA)) (hl:bs.length≤1000):zA9 cfg0 zA2 false 7 [.agg [vb,I film.1,I film.2]] H none=some ⟨.ret (.bool (stB bs film)),H,none⟩:=by
 have t1:=h.ltn 1
 have l2:=h.len
 rw [List.length_map] at l2
 have hs1:=h.scal
 obtain ⟨f1,f2⟩:=film
 simp only [stB]
 by_cases c0:bs.length≤8
 ·have c0':¬ (8:Int)<bs.length:=by omega
  by_cases c1:f1<0
  ·have e1:¬ 0≤f1:=by omega
   simp only [c0,e1,decide_true,decide_false,Bool.true_and,Bool.false_and]
   refine (zA1 fn7 rfl (by simp [Tryz.f7])).trans ?_
   simp -implicitDefEqProofs (maxSteps:=1000000) (disch:=first|rfl|omega|assumption) only [go_sem,ltT,ltF,leT,t1,l2,hs1,c0',c1]
   done
  ·have e1:0≤f1:=by omega
   by_cases c2:f2<f1
   ·have e2:¬ f1≤f2:=by omega
    simp only [c0,e1,e2,decide_true,decide_false,Bool.true_and,Bool.false_and]
    refine (zA1 fn7 rfl (by simp [Tryz.f7])).trans ?_
    simp -implicitDefEqProofs (maxSteps:=1000000) (disch:=first|rfl|omega|assumption) only [go_sem,ltT,ltF,leT,t1,l2,hs1,c0',c1,c2]
    done
   ·have e2:f1≤f2:=by omega
    by_cases c3:5<f2
    ·have e3:¬ f2≤5:=by omega
     simp only [c0,e1,e2,e3,decide_true,decide_false,Bool.true_and,Bool.false_and]
     refine (zA1 fn7 rfl (by simp [Tryz.f7])).trans ?_
     simp -implicitDefEqProofs (maxSteps:=1000000) (disch:=first|rfl|omega|assumption) only [go_sem,ltT,ltF,leT,t1,l2,hs1,c0',c1,c2,c3]
     done
    ·have e3:f2≤5:=by omega
     simp only [c0,e1,e2,e3,decide_true,Bool.true_and]
     have key:=rs_loop (film:=(f1,f2)) h hl (!anyF (badS bs) 0 bs.length) bs.length 0 (by omega) rfl []
     refine (zA1 fn7 rfl (by simp [Tryz.f7])).trans ?_
     simp -implicitDefEqProofs (maxSteps:=1000000) (disch:=first|rfl|omega|assumption) only [go_sem,ltT,ltF,leT,t1,l2,hs1,c0',c1,c2,c3]
     exact key _ (by rfl) (by rfl)
 ·have c0':(8:Int)<bs.length:=by omega
  simp only [c0,decide_false,Bool.false_and]
  refine (zA1 fn7 rfl (by simp [Tryz.f7])).trans ?_
  simp -implicitDefEqProofs (maxSteps:=1000000) (disch:=first|rfl|omega|assumption) only [go_sem,ltT,ltF,leT,t1,l2,hs1,c0']
  done
theorem popF_more:∀ (f n:Nat),n<2^f→∀ k,popF (f+k) n=popF f n
 | 0,n,h,k=>by
  have:n=0:=by simpa using h
  subst this
  rw [popF_zero,popF_zero]
 | f+1,n,h,k=>by
  rw [show f+1+k=(f+k)+1 by omega]
  simp only [popF]
  rw [popF_more f (n/2) (by rw [Nat.pow_succ] at h;omega) k]
theorem rz_loop:∀ (f n acc:Nat),n<2^f→f≤10→acc+f≤100→∀ E:Env,E.get 0=I n→E.get 3=I acc →
  Option.map (zAd H.length) (zAe cfg0 zA2 ⟨17,none,false,H.length⟩ (zA5 Tryz.f17 2) ⟨E,[],H,none⟩)=some ⟨.ret (I (acc+popF f n:Nat)),H,none⟩:=by
 have hk':True:=trivial
 have z:∀ E:Env,∀ acc:Nat,E.get 0=I (0:Nat)→E.get 3=I acc→Option.map (zAd H.length) (zAe cfg0 zA2 ⟨17,none,false,H.length⟩ (zA5 Tryz.f17 2) ⟨E,[],H,none⟩)=some ⟨.ret (I acc),H,none⟩:=by
  intro E acc g0 g3
  have hz:¬ (0:Int)<((0:Nat):Int):=by omega
  simp only [zA6,zA4,zA5,zA7,zA3,↓reduceIte,Option.some.injEq,Nat.reduceEqDiff,reduceCtorEq,Tryz.f17]
  rw [zA0]
  simp -implicitDefEqProofs (maxSteps:=1000000) (disch:=first|rfl|omega|assumption) only [go_sem,g0,g3,ltT,ltF,leT,hk',hz]
  done
 intro f
 induction f with
 | zero =>
  intro n acc h _ _ E g0 g3
  have:n=0:=by simpa using h
  subst this
  rw [show acc+popF 0 0=acc from rfl]
  exact z E acc g0 g3
 | succ f ih =>
  intro n acc h hf ha E g0 g3
  by_cases h0:n=0
  ·subst h0
   rw [popF_zero,Nat.add_zero]
   exact z E acc g0 g3
  ·have hp:(0:Int)<(n:Int):=by omega
   have hb:n<2^10:=Nat.lt_of_lt_of_le h (Nat.pow_le_pow_right (by omega) hf)
   have e1:(n:Int).tmod 2=((n%2:Nat):Int):=rfl
   have e2:(n:Int).tdiv 2=((n/2:Nat):Int):=rfl
   have q1:IntKind.i64.wrap ((n:Int).tmod 2)=((n%2:Nat):Int):=by rw [e1];exact w64 (by omega) (by omega)
   have q2:IntKind.i64.wrap ((n:Int).tdiv 2)=((n/2:Nat):Int):=by rw [e2];exact w64 (by omega) (by omega)
   have q3:IntKind.i64.wrap ((acc:Int)+((n%2:Nat):Int))=((acc+n%2:Nat):Int):=by rw [w64 (by omega) (by omega)];omega
   have e4:(acc:Int)+(n:Int).tmod 2=((acc+n%2:Nat):Int):=by rw [e1];omega
   have key:=ih (n/2) (acc+n%2) (by rw [Nat.pow_succ] at h;omega) (by omega) (by omega)
   simp only [Nat.add_assoc] at key
   have e3:acc+popF (f+1) n=acc+(n%2+popF f (n/2)):=by simp only [popF]
   rw [e3]
   simp only [zA6,zA4,zA5,zA7,zA3,↓reduceIte,Option.some.injEq,Nat.reduceEqDiff,reduceCtorEq,Tryz.f17]
   rw [zA0]
   simp -implicitDefEqProofs (maxSteps:=1000000) (disch:=first|rfl|omega|assumption) only [go_sem,g0,g3,ltT,ltF,leT,hk',hp,q1,q2,q3,e4]
   exact key _ (by rfl) (by rfl)
theorem ref_Size {x:Nat} (hx:x<1024) (H:Heap):zA9 cfg0 zA2 false 17 [I x] H none=some ⟨.ret (I (pop x)),H,none⟩:=by
 have key:=rz_loop (H:=H) 10 x 0 hx (by omega) (by omega)
 simp only [Nat.zero_add] at key
 have e:pop x=0+popF 10 x:=by rw [Nat.zero_add,pop];exact popF_more 10 x hx 10
 rw [e,Nat.zero_add]
 refine (zA1 fn17 rfl (by simp [Tryz.f17])).trans ?_
 simp -implicitDefEqProofs (maxSteps:=1000000) (disch:=first|rfl|omega|assumption) only [go_sem,ltT,ltF,leT]
 exact key _ (by rfl) (by rfl)
theorem anyF_all {f:Nat→Bool}:∀ (q j:Nat),anyF f j q=false→∀ i,j≤i→i<j+q→f i=false
 | 0,j,_,i,h1,h2=>by omega
 | q+1,j,h,i,h1,h2=>by
  simp only [anyF,Bool.or_eq_false_iff] at h
  by_cases e:i=j
  ·subst e;exact h.1
  ·exact anyF_all q (j+1) h.2 i (by omega) (by omega)
theorem stB_ok {vb:AV} {bs:List (Int×Int)} {film:Int×Int} (h:SlOk H 2 vb (bs.map spA)) (hb:stB bs film=true):StOk H vb bs film:=by
 simp only [stB,Bool.and_eq_true,decide_eq_true_eq,Bool.not_eq_true'] at hb
 obtain ⟨h1,h2,h3,h4,h5⟩:=hb
 refine ⟨h,h1,fun b hbm=>?_,⟨h2,h3,h4⟩⟩
 obtain ⟨i,hi,rfl⟩:=List.getElem_of_mem hbm
 have:=anyF_all _ _ h5 i (by omega) (by omega)
 simp only [badS,List.getD_eq_getElem?_getD,List.getElem?_eq_getElem hi,Option.getD_some,Bool.or_eq_false_iff,decide_eq_false_iff_not] at this
 omega
theorem fewS_in {bs:List (Int×Int)} {film w:Int×Int} (h:sureL bs film w≠[]):1≤fewS bs film w∧fewS bs film w<2^bs.length∧w.1≤(lgN bs film bs.length (fewS bs film w)).lo∧(lgN bs film bs.length (fewS bs film w)).hi≤w.2:=by
 have key:∀ L:List Nat,L≠[]→(joinL (L.map fdx)).least∈L:=by
  intro L
  induction L with
  | nil=>intro h;exact absurd rfl h
  | cons x r ih =>
   intro _
   by_cases e:r=[]
   ·subst e;simp [joinL,fdx]
   ·have h1:joinL ((x::r).map fdx)=(fdx x).join (joinL (r.map fdx)):=zB4 (by simpa using e)
    have h2:(fdx x).least=x:=rfl
    rw [h1,join_least,h2]
    have:=ih e
    simp only [mnS]
    split
    ·exact List.mem_cons_of_mem _ this
    ·exact List.mem_cons_self ..
 have hm:=key _ h
 change fewS bs film w∈_ at hm
 obtain ⟨h1,h2⟩:=List.mem_filter.1 hm
 simp only [isB,ne_eq,decide_not,Bool.and_eq_true,Bool.not_eq_true',decide_eq_false_iff_not,decide_eq_true_eq] at h2
 exact ⟨by omega,List.mem_range.1 h1,h2.2.1,h2.2.2⟩
theorem wi_iff {n lo hi:Int}:wi n lo hi=true↔lo≤n∧n≤hi:=by simp [wi]
theorem SlOk.sld {sz:Nat} {v:AV} {xs:List AV} (h:SlOk H sz v xs) (A:Heap):sealG A H.length v=v:=by
 have hl:=h.lt0
 obtain ⟨h1,_⟩:=h
 cases v<;>simp only at h1
 ·rfl
 ·simp only [AV.lt,decide_eq_true_eq] at hl
  simp only [sealG,if_pos hl]
structure Fc where
 lo:Int
 hi:Int
 st:Int
def fc0:Fc:=⟨0,0,0⟩
def Fc.av (f:Fc):AV:=.agg [I f.lo,I f.hi,I f.st]
structure Bk where
 lo:Int
 hi:Int
 f0:Fc
 f1:Fc
def bk0:Bk:=⟨0,0,fc0,fc0⟩
def Bk.fcs (b:Bk):List AV:=[I b.f0.lo,I b.f0.hi,I b.f0.st,I b.f1.lo,I b.f1.hi,I b.f1.st]
def Bk.av (b:Bk):AV:=.agg [I b.lo,I b.hi,I b.f0.lo,I b.f0.hi,I b.f0.st,I b.f1.lo,I b.f1.hi,I b.f1.st]
def Bk.fc (b:Bk) (k:Nat):Fc:=if k=0 then b.f0 else b.f1
structure Ap where
 a:Int
 b:Int
def ap0:Ap:=⟨0,0⟩
def Ap.av (a:Ap):AV:=.agg [I a.a,I a.b]
structure Pc where
 b:Int
 u:Int
def pc0:Pc:=⟨0,0⟩
def Pc.av (p:Pc):AV:=.agg [I p.b,I p.u]
structure Wg where
 bs:List Bk
 ps:List Ap
def Wg.av (w:Wg) (vb va:AV):AV:=.agg [vb,va]
abbrev Wg.n (w:Wg):Nat:=w.bs.length
abbrev Wg.b (w:Wg) (i:Nat):Bk:=w.bs.getD i bk0
abbrev Wg.a (w:Wg) (i:Nat):Ap:=w.ps.getD i ap0
structure WgAt (H:Heap) (w:Wg) (vb va:AV):Prop where
 bs:SlOk H 8 vb (w.bs.map Bk.av)
 ps:SlOk H 2 va (w.ps.map Ap.av)
theorem WgAt.app {w:Wg} {vb va:AV} (h:WgAt H w vb va) (G:Heap):WgAt (H++G) w vb va:=⟨h.bs.app G,h.ps.app G⟩
theorem zAw (n lo hi:Int) (H:Heap):zA9 cfg0 zA2 false 68 [I n,I lo,I hi] H none=some ⟨.ret (.bool (wi n lo hi)),H,none⟩:=by
 refine (zA1 fn68 rfl (by simp [Tryz.f68])).trans ?_
 by_cases h1:lo≤n<;>simp -implicitDefEqProofs only [go_sem,h1,wi]
theorem ref_in (n lo hi:Int) (H:Heap):zA9 cfg0 zA2 false 19 [I n,I lo,I hi] H none=some ⟨.ret (.bool (wi n lo hi)),H,none⟩:=by
 refine (zA1 fn19 rfl (by simp [Tryz.f19])).trans ?_
 by_cases h1:lo≤n<;>simp -implicitDefEqProofs only [go_sem,h1,wi]
theorem zB5 (b:Bool) (e:Int) (H:Heap):zA9 cfg0 zA2 false 45 [.bool b,I e] H none=some ⟨if b then .ret (.tup []) else .pan (.iface 152 (.agg [I e])),H,none⟩:=by
 refine (zA1 fn45 rfl (by simp [Tryz.f45])).trans ?_
 cases b<;>simp -implicitDefEqProofs only [go_sem]
theorem wr_stopn (l:Nat) (H:Heap):zA9 cfg0 zA2 false 33 [.nilIface,.ptr l 0] H none=some ⟨.ret (.tup []),H,none⟩:=by
 refine (zA1 fn33 rfl (by simp [Tryz.f33])).trans ?_
 simp -implicitDefEqProofs only [go_sem]
theorem wr_stops (l:Nat) (x e:Int) (H:Heap) (h:H[l]? = some (.box (I x))):zA9 cfg0 zA2 false 33 [.iface 152 (.agg [I e]),.ptr l 0] H none=some ⟨.ret (.tup []),H.set l (.box (I e)),none⟩:=by
 have hl:l<H.length:=(List.getElem?_eq_some_iff.1 h).1
 refine (zA1 fn33 rfl (by simp [Tryz.f33])).trans ?_
 simp -implicitDefEqProofs only [go_sem,zAt hl,set_lt hl,h]
def spOk (lo hi a b:Int):Bool:=decide (a≤lo)&&(decide (lo≤hi)&&decide (hi≤b))
theorem wr_span (lo hi a b:Int) (H:Heap):zA9 cfg0 zA2 false 69 [.agg [I lo,I hi],I a,I b] H none=some ⟨.ret (.bool (spOk lo hi a b)),H,none⟩:=by
 refine (zA1 fn69 rfl (by simp [Tryz.f69])).trans ?_
 by_cases h1:a≤lo
 ·by_cases h2:lo≤hi
  ·by_cases h3:hi≤b<;>simp -implicitDefEqProofs only [go_sem,h1,h2,h3,spOk]
  ·simp -implicitDefEqProofs only [go_sem,h1,h2,spOk]
 ·simp -implicitDefEqProofs only [go_sem,h1,spOk]
theorem ref_span (lo hi a b:Int) (H:Heap):zA9 cfg0 zA2 false 20 [.agg [I lo,I hi],I a,I b] H none=some ⟨.ret (.bool (spOk lo hi a b)),H,none⟩:=by
 refine (zA1 fn20 rfl (by simp [Tryz.f20])).trans ?_
 by_cases h1:a≤lo
 ·by_cases h2:lo≤hi
  ·by_cases h3:hi≤b<;>simp -implicitDefEqProofs only [go_sem,h1,h2,h3,spOk]
  ·simp -implicitDefEqProofs only [go_sem,h1,h2,spOk]
 ·simp -implicitDefEqProofs only [go_sem,h1,spOk]
theorem wr_always (v:AV) (H:Heap):zA9 cfg0 zA2 false 35 [v] H none=some ⟨.ret (.bool true),H,none⟩:=by
 refine (zA1 fn35 rfl (by simp [Tryz.f35])).trans ?_
 simp -implicitDefEqProofs (maxSteps:=1000000) (disch:=first|rfl|omega|assumption) only [go_sem,ltT,ltF,leT]
def vwA (b:Bool):AV:=if b then .iface 98 (.agg [I 1]) else .iface 96 (.agg [I 0])
def lvl (b:Bool):Int:=if b then 1 else 0
theorem wr_worst (n:Int) (f:Fc) (H:Heap):zA9 cfg0 zA2 false 122 [.agg [I n],f.av] H none=some ⟨.ret (.bool (decide (f.st≤n))),H,none⟩:=by
 obtain ⟨lo,hi,st⟩:=f
 simp only [Fc.av]
 refine (zA1 fn122 rfl (by simp [Tryz.f122])).trans ?_
 by_cases h:st≤n<;>simp -implicitDefEqProofs only [go_sem,h]
theorem wr_best (n:Int) (f:Fc) (H:Heap):zA9 cfg0 zA2 false 123 [.agg [I n],f.av] H none=some ⟨.ret (.bool (decide (f.st≤n))),H,none⟩:=by
 have hw:=wr_worst n f
 obtain ⟨lo,hi,st⟩:=f
 simp only [Fc.av] at hw ⊢
 refine (zA1 fn123 rfl (by simp [Tryz.f123])).trans ?_
 by_cases h:st≤n
 ·simp -implicitDefEqProofs (maxSteps:=1000000) (disch:=first|rfl|omega|assumption) only [go_sem,ltT,ltF,leT,hw,h]
 ·simp -implicitDefEqProofs (maxSteps:=1000000) (disch:=first|rfl|omega|assumption) only [go_sem,ltT,ltF,leT,hw,h]
theorem wr_whole {b0:Nat} (b:Bool) (f:Fc) (H:Heap):zB1 cfg0 zA2 b0 false (.method "blockworks/wring.whole") [vwA b,f.av] [] H none=some ⟨.ret (.bool (decide (f.st≤lvl b))),H,none⟩:=by
 have h1:=wr_worst 0 f H
 have h2:=wr_best 1 f H
 cases b
 ·simp only [vwA,lvl,Bool.false_eq_true,if_false]
  simp -implicitDefEqProofs (maxSteps:=1000000) (disch:=first|rfl|omega|assumption) only [go_sem,ltT,ltF,leT,h1]
 ·simp only [vwA,lvl,if_true]
  simp -implicitDefEqProofs (maxSteps:=1000000) (disch:=first|rfl|omega|assumption) only [go_sem,ltT,ltF,leT,h2]
theorem wr_optimist (H:Heap):zA9 cfg0 zA2 false 39 [] H none=some ⟨.ret (.agg [I 1]),H,none⟩:=by
 refine (zA1 fn39 rfl (by simp [Tryz.f39])).trans ?_
 simp -implicitDefEqProofs (maxSteps:=1000000) (disch:=first|rfl|omega|assumption) only [go_sem,ltT,ltF,leT]
def spB (l:List (Int×Int)) (b:Int):Prop:=∀ p∈l,-b≤p.1∧p.1≤b ∧ -b≤p.2∧p.2≤b
def sum1 (l:List (Int×Int)):Int:=(l.map (·.1)).sum
def sum2 (l:List (Int×Int)):Int:=(l.map (·.2)).sum
def sumAt (l:List (Int×Int)) (j:Nat) (a b:Int):Prop:=a=sum1 (l.take j)∧b=sum2 (l.take j) ∧ -(1000000*(j:Int))≤a∧a≤1000000*j ∧ -(1000000*(j:Int))≤b∧b≤1000000*j
theorem sum_snoc {l:List (Int×Int)} {j:Nat} (h:j<l.length):sum1 (l.take (j+1))=sum1 (l.take j)+(l.getD j (0,0)).1∧sum2 (l.take (j+1))=sum2 (l.take j)+(l.getD j (0,0)).2:=by
 constructor<;>simp only [sum1,sum2,List.take_succ_eq_append_getElem h,List.map_append,List.map_cons,List.map_nil,List.sum_append,List.sum_cons,List.sum_nil,List.getD_eq_getElem?_getD,List.getElem?_eq_getElem h,Option.getD_some,Int.add_zero]
theorem sum_loop {v:AV} {l:List (Int×Int)} (h:SlOk H 2 v (l.map spA)) (hl:l.length≤1000) (hb:spB l 1000000) :
  ∀ (q j:Nat),j+q=l.length→∀ (G:Heap),∀ (a:Int),∀ (b:Int),sumAt l j a b→∀ E:Env,E.get 2=.ptr H.length 0→E.get 5=v→E.get 6=I l.length→E.get 7=I j →
  Option.map (zAd H.length) (zAe cfg0 zA2 ⟨58,none,false,H.length⟩ (zA5 Tryz.f58 2) ⟨E,[],H++(.box (.agg [I a,I b])::G),none⟩)=some ⟨.ret (.agg [I (sum1 l),I (sum2 l)]),H,none⟩:=by
 intro q
 obtain ⟨a1,a2,a3,a4,a5⟩:=h.fF (d:=(0,0))
 have t1:=h.ltn 1
 induction q with
 | zero =>
  intro j hj G a b ha E g2 g5 g6 g7
  have hk':¬ (j:Int)<((l.length:Nat):Int):=by omega
  have e:l.take j=l:=List.take_of_length_le (by omega)
  obtain ⟨rfl,rfl,_⟩:=ha
  rw [e]
  simp only [zA6,zA4,zA5,zA7,zA3,↓reduceIte,Option.some.injEq,Nat.reduceEqDiff,reduceCtorEq,Tryz.f58]
  rw [zA0]
  simp -implicitDefEqProofs (maxSteps:=1000000) (disch:=first|rfl|omega|assumption) only [go_sem,g2,g5,g6,g7,ltT,ltF,leT,hk',t1]
  done
 | succ q ih =>
  intro j hj G a b ha E g2 g5 g6 g7
  have hk':(j:Int)<((l.length:Nat):Int):=by omega
  have hk2:j<l.length:=by omega
  obtain ⟨x,hx⟩:∃ x,l.getD j (0,0)=x:=⟨_,rfl⟩
  obtain ⟨e1,e2⟩:=sum_snoc hk2
  rw [hx] at e1 e2
  have hbx:=hb x (by rw [← hx];simp [hk2])
  obtain ⟨x1,x2⟩:=x
  simp only at e1 e2 hbx
  obtain ⟨h1,h2,h3,h4,h5,h6⟩:=ha
  have hrd:∀ ty:Ty,zAf (spA (x1,x2)).cells 0 ty=zAf [I x1,I x2] 0 ty:=fun _=>rfl
  simp only [zA6,zA4,zA5,zA7,zA3,↓reduceIte,Option.some.injEq,Nat.reduceEqDiff,reduceCtorEq,Tryz.f58]
  rw [zA0]
  simp -implicitDefEqProofs (maxSteps:=1000000) (disch:=first|rfl|omega|assumption) only [go_sem,g2,g5,g6,g7,ltT,ltF,leT,hk',t1,a1,a2,a3,a4,a5,hx,hrd]
  exact ih (j+1) (by omega) [.box (.agg [I x1,I x2])] (a+x1) (b+x2) ⟨by rw [e1,h1],by rw [e2,h2],by omega,by omega,by omega,by omega⟩ _ (by rfl) (by rfl) (by rfl) (by rfl)
theorem wr_sum {v:AV} {l:List (Int×Int)} (h:SlOk H 2 v (l.map spA)) (hl:l.length≤1000) (hb:spB l 1000000):zA9 cfg0 zA2 false 58 [v] H none=some ⟨.ret (.agg [I (sum1 l),I (sum2 l)]),H,none⟩:=by
 have h1:=sum_loop h hl hb l.length 0 (by omega) [] 0 0 ⟨rfl,rfl,by omega,by omega,by omega,by omega⟩
 have hln:=h.len
 rw [List.length_map] at hln
 have hln':=fun G=>(h.app G).len
 simp only [List.length_map] at hln'
 refine (zA1 fn58 rfl (by simp [Tryz.f58])).trans ?_
 simp -implicitDefEqProofs (maxSteps:=1000000) (disch:=first|rfl|omega|assumption) only [go_sem,ltT,ltF,leT,hln,hln']
 exact h1 _ (by rfl) (by rfl) (by rfl) (by rfl)
def fcsN (g:Nat→Bk):List AV:=(g 0).fcs++((g 1).fcs++((g 2).fcs++((g 3).fcs++(g 4).fcs)))
theorem zBv (g:Nat→Bk):(fcsN g).length=30:=rfl
theorem rd_face (g:Nat→Bk) {i k:Nat} (hi:i<5) (hk:k<2):zAf (fcsN g) (i*6+k*3) ⟨.struct [(0,31),(2,3)],3,24,some (.agg #[.int .i64 0,.int .i64 0,.int .i64 0])⟩=some ((g i).fc k).av:=by
 have h1:i=0∨i=1∨i=2∨i=3∨i=4:=by omega
 have h2:k=0∨k=1:=by omega
 rcases h1 with rfl | rfl | rfl | rfl | rfl<;>rcases h2 with rfl | rfl<;>rfl
theorem fcsN_sc (g:Nat→Bk):zAb (fcsN g)=true:=rfl
theorem wr_above (g:Nat→Bk) {i k:Nat} (hi:i<5) (hk:k<2) (H:Heap):zA9 cfg0 zA2 false 56 [.agg (fcsN g),.agg [I i,I k]] H none=some ⟨.ret ((g i).fc k).av,H,none⟩:=by
 have e1:=zBv g
 have e2:=fcsN_sc g
 have e3:=rd_face g hi hk
 simp only [Fc.av] at e3 ⊢
 refine (zA1 fn56 rfl (by simp [Tryz.f56])).trans ?_
 simp -implicitDefEqProofs (maxSteps:=1000000) (disch:=first|rfl|omega|assumption) only [go_sem,ltT,ltF,leT,e1,e2]
 rw [zAa];rotate_left;kernel_rfl
 simp -implicitDefEqProofs (maxSteps:=1000000) (disch:=first|rfl|omega|assumption) only [go_sem,ltT,ltF,leT,e1,e2,e3]
theorem wr_below (g:Nat→Bk) {i k:Nat} (hi:i<5) (hk:k<2) (H:Heap):zA9 cfg0 zA2 false 57 [.agg (fcsN g),.agg [I i,I k]] H none=some ⟨.ret ((g i).fc (1-k)).av,H,none⟩:=by
 have e1:=zBv g
 have e2:=fcsN_sc g
 have e3:=rd_face g hi (k:=1-k) (by omega)
 have e4:IntKind.i64.wrap (1-(k:Int))=((1-k:Nat):Int):=by rw [w64 (by omega) (by omega)];omega
 simp only [Fc.av] at e3 ⊢
 refine (zA1 fn57 rfl (by simp [Tryz.f57])).trans ?_
 simp -implicitDefEqProofs (maxSteps:=1000000) (disch:=first|rfl|omega|assumption) only [go_sem,ltT,ltF,leT,e1,e2]
 rw [zAa];rotate_left;kernel_rfl
 simp -implicitDefEqProofs (maxSteps:=1000000) (disch:=first|rfl|omega|assumption) only [go_sem,ltT,ltF,leT,e1,e2,e3,e4]
end Go.Ab
