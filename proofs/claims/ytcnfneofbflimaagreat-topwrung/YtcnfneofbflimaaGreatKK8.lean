/- A stack by numbers. -/
import Derived.Test.YtcnfneofbflimaaGreatKK7
import Derived.Test.YtcnfneofbflimaaGreatKK4
import Derived.Test.YtcnfneofbflimaaGreatKK0
namespace Go.Ab
open Go.Proofs
set_option linter.unusedSimpArgs false
set_option linter.unusedVariables false
set_option maxRecDepth 100000
set_option maxHeartbeats 2000000
variable {H:Heap}
def B8 (n:Int):AV:=.int .u8 n
def mdB (n:Nat) (v:Int):Int:=(v.tdiv 2).tmod n
def mdP (n:Nat) (v:Int):Pc:=⟨mdB n v,v.tmod 2⟩
def mdS (n:Nat) (ws:List Int) (acc:List Pc) (i:Nat):List Pc:=if !acc.any (fun x=>x.b==mdB n (ws.getD i 0))&&decide (i<40) then acc++[mdP n (ws.getD i 0)] else acc
def mdF (n:Nat) (ws:List Int) (acc:List Pc) (j q:Nat):List Pc:=foldF (mdS n ws) acc j q
def mdL (n:Nat) (ws:List Int):List Pc:=mdF n ws [] 0 ws.length
def madeL (n:Nat) (ws:List Int):List Pc:=if mdL n ws=[] then [⟨0,0⟩] else mdL n ws
structure ByOk (ws:List Int):Prop where
 len:ws.length≤9223372036854775807
 bd:∀ i,i<ws.length→0≤ws.getD i 0∧ws.getD i 0≤255
def p2 {α:Type} (p:α×α) (k:Nat):α:=if k=0 then p.1 else p.2
def bpA (p:Bool×Bool):AV:=.agg [.bool p.1,.bool p.2]
structure Tru where
 sc:List (Bool×Bool)
 ro:List (Int×Int)
 ln:List Int
structure TruAt (H:Heap) (t:Tru) (v1 v2 v3:AV):Prop where
 sc:SlOk H 2 v1 (t.sc.map bpA)
 ro:SlOk H 2 v2 (t.ro.map spA)
 ln:SlOk H 1 v3 (t.ln.map I)
theorem TruAt.app {t:Tru} {v1 v2 v3:AV} (h:TruAt H t v1 v2 v3) (G:Heap):TruAt (H++G) t v1 v2 v3:=⟨h.sc.app G,h.ro.app G,h.ln.app G⟩
def Tru.s (t:Tru) (b k:Nat):Bool:=p2 (t.sc.getD b (false,false)) k
def Tru.r (t:Tru) (b k:Nat):Int:=p2 (t.ro.getD b (0,0)) k
def Tru.l (t:Tru) (b:Nat):Int:=t.ln.getD b 0
structure Tru.Ok (t:Tru) (n:Nat):Prop where
 sc:t.sc.length=n
 ro:t.ro.length=n
 ln:t.ln.length=n
 br:∀ b k,0≤t.r b k∧t.r b k≤1000
 bl:∀ b,0≤t.l b∧t.l b≤1000
def Tru.sA (t:Tru) (x:Pc):Bool:=t.s x.b.toNat x.u.toNat
def Tru.sB (t:Tru) (x:Pc):Bool:=t.s x.b.toNat (1-x.u.toNat)
def Tru.rA (t:Tru) (x:Pc):Int:=t.r x.b.toNat x.u.toNat
def Tru.rB (t:Tru) (x:Pc):Int:=t.r x.b.toNat (1-x.u.toNat)
def Tru.bad (t:Tru) (w:Wg) (y x:Pc):Bool:=(t.sA y||t.sB x)||w.ap x.b y.b
abbrev LkS:=Bool×Int×Int
def Tru.stp (t:Tru) (w:Wg) (xs:List Pc) (st:LkS) (i:Nat):LkS :=
 if i=0 then (st.1,st.2.1+t.l (pcA xs i).b.toNat,st.2.2)
 else (st.1&&!t.bad w (pcA xs (i-1)) (pcA xs i),st.2.1+t.l (pcA xs i).b.toNat,st.2.2+(t.rA (pcA xs (i-1))+t.rB (pcA xs i)))
def Tru.lookF (t:Tru) (w:Wg) (xs:List Pc) (st:LkS) (j q:Nat):LkS:=foldF (t.stp w xs) st j q
def Tru.look (t:Tru) (w:Wg) (xs:List Pc):LkS:=t.lookF w xs (true,0,0) 0 xs.length
structure OfOk16 (ws:List Int):Prop where
 len:ws.length≤9223372036854775807
 bd:∀ i,i<ws.length→0≤ws.getD i 0∧ws.getD i 0≤65535
def dwV (ws:List Int) (at':Nat) (lo hi:Int):Int:=if ws.length=0 then lo else lo+(ws.getD (at' % ws.length) 0+41*(at':Int)).tmod (hi-lo+1)
def fcD (ws:List Int) (a:Nat) (f:Fc):Int×Bool×Nat :=
 (dwV ws (a+1) f.lo f.hi,if f.st=2 then true else if f.st=1 then dwV ws (a+1+1) 0 1==1 else false,if f.st=2 then a+1 else if f.st=1 then a+1+1 else a+1)
def bkD (ws:List Int) (a:Nat) (b:Bk):(Bool×Bool)×(Int×Int)×Int×Nat :=
 (((fcD ws a b.f0).2.1,(fcD ws (fcD ws a b.f0).2.2 b.f1).2.1),((fcD ws a b.f0).1,(fcD ws (fcD ws a b.f0).2.2 b.f1).1),dwV ws ((fcD ws (fcD ws a b.f0).2.2 b.f1).2.2+1) b.lo b.hi,(fcD ws (fcD ws a b.f0).2.2 b.f1).2.2+1)
def set2 {α:Type} (p:α×α) (k:Nat) (v:α):α×α:=if k=0 then (v,p.2) else (p.1,v)
def trS (ws:List Int) (w:Wg) (st:Nat×Tru) (i:Nat):Nat×Tru :=
 ((bkD ws st.1 (w.b i)).2.2.2,⟨st.2.sc++[(bkD ws st.1 (w.b i)).1],st.2.ro++[(bkD ws st.1 (w.b i)).2.1],st.2.ln++[(bkD ws st.1 (w.b i)).2.2.1]⟩)
def trF (ws:List Int) (w:Wg) (st:Nat×Tru) (j q:Nat):Nat×Tru:=foldF (trS ws w) st j q
def Wg.truly (w:Wg) (ws:List Int):Tru:=(trF ws w (0,⟨[],[],[]⟩) 0 w.bs.length).2
def truA (t:Tru):AV:=.agg [.sl false (t.sc.map bpA),.sl false (t.ro.map spA),.sl false (t.ln.map I)]
structure TruOf (w:Wg) (t:Tru):Prop where
 ok:t.Ok w.bs.length
 s2:∀ i k,i<w.bs.length→k<2→((w.b i).fc k).st=2→t.s i k=true
 s0:∀ i k,i<w.bs.length→k<2→((w.b i).fc k).st=0→t.s i k=false
 ro:∀ i k,i<w.bs.length→k<2→((w.b i).fc k).lo≤t.r i k∧t.r i k≤((w.b i).fc k).hi
 ln:∀ i,i<w.bs.length→(w.b i).lo≤t.l i∧t.l i≤(w.b i).hi
theorem fc_0 (b:Bk):b.fc 0=b.f0:=rfl
theorem fc_1 (b:Bk):b.fc 1=b.f1:=rfl
structure TruTo (w:Wg) (t:Tru) (j:Nat):Prop where
 sc:t.sc.length=j
 ro:t.ro.length=j
 ln:t.ln.length=j
 at':∀ i,i<j→(∀ k,k<2→(((w.b i).fc k).st=2→t.s i k=true)∧(((w.b i).fc k).st=0→t.s i k=false)∧((w.b i).fc k).lo≤t.r i k∧t.r i k≤((w.b i).fc k).hi)∧(w.b i).lo≤t.l i∧t.l i≤(w.b i).hi
theorem TruTo.of {w:Wg} (ho:w.Ok) {t:Tru} (h:TruTo w t w.bs.length):TruOf w t where
 ok:=by
  refine ⟨h.sc,h.ro,h.ln,fun b k=>?_,fun b=>?_⟩
  ·by_cases hb:b<w.bs.length
   ·have hk:t.r b k=t.r b (if k=0 then 0 else 1):=by
     simp only [Tru.r,p2]
     by_cases e:k=0<;>simp [e]
    rw [hk]
    have h1:=((h.at' b hb).1 (if k=0 then 0 else 1) (by split<;>omega)).2.2
    have f0:=(ho.f0 b hb).sp
    have f1:=(ho.f1 b hb).sp
    by_cases e:k=0
    ·rw [if_pos e] at h1 ⊢
     rw [fc_0] at h1
     omega
    ·rw [if_neg e] at h1 ⊢
     rw [fc_1] at h1
     omega
   ·have:t.ro.getD b (0,0)=(0,0):=by
     rw [List.getD_eq_getElem?_getD,List.getElem?_eq_none (by rw [h.ro];omega)];rfl
    simp only [Tru.r,this,p2]
    split<;>omega
  ·by_cases hb:b<w.bs.length
   ·have:=(h.at' b hb).2
    have:=ho.sp b hb
    omega
   ·have:t.ln.getD b 0=0:=by
     rw [List.getD_eq_getElem?_getD,List.getElem?_eq_none (by rw [h.ln];omega)];rfl
    simp only [Tru.l,this]
    omega
 s2:=fun i k hi hk=>((h.at' i hi).1 k hk).1
 s0:=fun i k hi hk=>((h.at' i hi).1 k hk).2.1
 ro:=fun i k hi hk=>((h.at' i hi).1 k hk).2.2
 ln:=fun i hi=>(h.at' i hi).2
end Go.Ab
namespace Go.Ab
open Go.Proofs
set_option linter.unusedSimpArgs false
set_option linter.unusedVariables false
set_option maxRecDepth 100000
variable {H:Heap}
def swp (L:List Nat) (i j:Nat):List Nat:=(L.set i (L.getD j 0)).set j (L.getD i 0)
theorem swp_len (L:List Nat) (i j:Nat):(swp L i j).length=L.length:=by simp [swp]
section
variable (key:Nat→Int)
def insIn (a:Nat):List Nat→Nat→List Nat
 | L,0=>L
 | L,q+1=>if key (L.getD (a+q+1) 0)-key (L.getD (a+q) 0)<0 then insIn a (swp L (a+q+1) (a+q)) q else L
def insOut (a:Nat):List Nat→Nat→Nat→List Nat
 | L,_,0=>L
 | L,i,q+1=>insOut a (insIn key a L (i-a)) (i+1) q
def insS (L:List Nat) (a b:Nat):List Nat:=insOut key a L (a+1) (b-(a+1))
theorem insIn_len (a:Nat):∀ (q:Nat) (L:List Nat),(insIn key a L q).length=L.length
 | 0,_=>rfl
 | q+1,L=>by
  rw [insIn]
  split
  ·rw [insIn_len a q,swp_len]
  ·rfl
theorem insOut_len (a:Nat):∀ (q i:Nat) (L:List Nat),(insOut key a L i q).length=L.length
 | 0,_,_=>rfl
 | q+1,i,L=>by rw [insOut,insOut_len a q,insIn_len]
end
abbrev GH (H:Heap) (p:Nat) (L:List Nat):Heap:=H.set p (.grow 1 (L.map U))
theorem GH_sl {p:Nat} (hp:p<H.length) (L:List Nat):SlOk (GH H p L) 1 (.gsl p L.length) (L.map U) :=
 ⟨⟨List.getElem?_set_self hp,by simp⟩,by simp [U,AV.cells]⟩
theorem GH_idx {p n:Nat} (hp:p<H.length) {M:List Nat} (te:Ty) (k:Int) (hM:M.length=n) (hs:te.size=1) (hk:0≤k∧k<n):idxAddr (GH H p M) te (.gsl p n) k=some (elA (.gsl p n) k 0):=by
 subst hM
 exact (GH_sl hp M).fF (d:=0) |>.2.1 te k hs hk
theorem GH_load {p n:Nat} (hp:p<H.length) {M:List Nat} (te:Ty) (k:Nat) (hM:M.length=n) (hk:k<n):evLoad (GH H p M) te (elA (.gsl p n) (k:Int) 0)=zAf [U (M.getD k 0)] 0 te:=by
 subst hM
 have:=(GH_sl hp M).fF (d:=0) |>.2.2.2.1 te (k:Int) 0 (by omega)
 rw [Int.toNat_natCast] at this
 exact this
theorem GH_store {p n b:Nat} (hp:p<H.length) {M:List Nat} {z:Option Value} (k x:Nat) (hM:M.length=n) (hk:k<n):evStore b (GH H p M) ⟨.int .u64,1,8,z⟩ (elA (.gsl p n) (k:Int) 0) (U x)=some (GH H p (M.set k x)):=by
 subst hM
 have h1:(M.map U)[k]? = some (U (M.getD k 0)):=by simp [hk]
 simp only [elA,Int.toNat_natCast,evStore,GH,List.getElem?_set_self hp,List.length_map,h1]
 simp [AV.lt,zBc,zAb,AV.cells,AV.scalar,splice,AV.withCells]
structure Cmp (fn:Fn) (cap:List AV) (key:Nat→Int) (B:Nat):Prop where
 call:∀ (b0 x y:Nat) (G:Heap),x<B→y<B→zB1 cfg0 zA2 b0 false fn [U x,U y] cap G none=some ⟨.ret (I (key x-key y)),G,none⟩
 bd:∀ x,-100≤key x∧key x≤100
def Small (B:Nat) (L:List Nat):Prop:=∀ k,k<L.length→L.getD k 0<B
theorem swp_mem {B:Nat} {L:List Nat} (h:Small B L) {i j:Nat} (hi:i<L.length) (hj:j<L.length):Small B (swp L i j):=by
 intro k hk
 rw [swp_len] at hk
 have h1:=h i hi
 have h2:=h j hj
 have h3:=h k hk
 have e:(swp L i j).getD k 0=if j=k then L.getD i 0 else if i=k then L.getD j 0 else L.getD k 0:=by
  simp only [swp,List.getD,List.getElem?_set,List.length_set]
  by_cases h4:j=k
  ·subst h4;simp [hj]
  ·by_cases h5:i=k
   ·subst h5;simp [h4,hi]
   ·simp [h4,h5]
 rw [e]
 split
 ·exact h1
 ·split
  ·exact h2
  ·exact h3
theorem insIn_loop {fn:Fn} {cap:List AV} {key:Nat→Int} {B:Nat} (hc:Cmp fn cap key B) {p:Nat} (hp:p<H.length) (a b i:Nat) (n:Nat) (hn:n≤100000) (hab:i<n) (R0:List Nat) (K:List Item) (R:Option Done) (hK:∀ E:Env,E.get 0=.gsl p n→E.get 1=I a→E.get 2=I b→E.get 3=.func fn [] cap→E.get 8=I i→Option.map (zAd H.length) (zAe cfg0 zA2 ⟨96,none,false,H.length⟩ K ⟨E,[],GH H p R0,none⟩)=R)  :
  ∀ (q j:Nat),j+q=i-a→∀ (L:List Nat),L.length=n→insIn key a L q=R0→Small B L→a≤i→∀ E:Env,E.get 0=.gsl p n→E.get 1=I a→E.get 2=I b→E.get 3=.func fn [] cap→E.get 8=I i→E.get 9=I ((a+q:Nat):Int) →
  Option.map (zAd H.length) (zAe cfg0 zA2 ⟨96,none,false,H.length⟩ (zA6 Tryz.f96 4::.inBlock 2::K) ⟨E,[],GH H p L,none⟩)=R:=by
 intro q
 skip
 induction q with
 | zero =>
  intro j hj L hL hr hB hai E g0 g1 g2 g3 g8 g9
  have hk':¬ (j:Int)<((i-a:Nat):Int):=by omega
  simp only [insIn] at hr
  subst hr
  simp only [zA6,zA4,zA5,zA7,zA3,↓reduceIte,Option.some.injEq,Nat.reduceEqDiff,reduceCtorEq,Tryz.f96]
  rw [zA0]
  have hz:¬ (a:Int)<((a+0:Nat):Int):=by omega
  simp -implicitDefEqProofs (maxSteps:=1000000) (disch:=first|rfl|omega|assumption) only [go_sem,g0,g1,g2,g3,g8,g9,ltT,ltF,leT,hk',hz]
  rw [zAa];rotate_left;kernel_rfl
  simp -implicitDefEqProofs (maxSteps:=1000000) (disch:=first|rfl|omega|assumption) only [go_sem,g0,g1,g2,g3,g8,g9,ltT,ltF,leT,hk',hz]
  exact hK _ (by exact g0) (by exact g1) (by exact g2) (by exact g3) (by exact g8)
 | succ q ih =>
  intro j hj L hL hr hB hai E g0 g1 g2 g3 g8 g9
  have hk':(j:Int)<((i-a:Nat):Int):=by omega
  have hk2:j<i-a:=by omega
  have hz:(a:Int)<((a+(q+1):Nat):Int):=by omega
  have f1:=@GH_idx H p n hp
  have f2:=@GH_load H p n hp
  have f3:=@GH_store H p n H.length hp
  have hL2:(L.set (a+(q+1)) (L.getD (a+q) 0)).length=n:=by rw [List.length_set];exact hL
  have e1:((a+(q+1):Nat):Int)-1=((a+q:Nat):Int):=by omega
  have x1:=hB (a+(q+1)) (by omega)
  have x2:=hB (a+q) (by omega)
  have hcc:=fun (b0:Nat) G=>hc.call b0 _ _ G x1 x2
  have k1:=hc.bd (L.getD (a+(q+1)) 0)
  have k2:=hc.bd (L.getD (a+q) 0)
  rw [show insIn key a L (q+1)=if key (L.getD (a+(q+1)) 0)-key (L.getD (a+q) 0)<0 then insIn key a (swp L (a+(q+1)) (a+q)) q else L from rfl] at hr
  by_cases hlt:key (L.getD (a+(q+1)) 0)-key (L.getD (a+q) 0)<0
  ·rw [if_pos hlt] at hr
   have hsm:=swp_mem hB (i:=a+(q+1)) (j:=a+q) (by omega) (by omega)
   simp only [zA6,zA4,zA5,zA7,zA3,↓reduceIte,Option.some.injEq,Nat.reduceEqDiff,reduceCtorEq,Tryz.f96]
   rw [zA0]
   simp -implicitDefEqProofs (maxSteps:=1000000) (disch:=first|rfl|omega|assumption) only [go_sem,g0,g1,g2,g3,g8,g9,ltT,ltF,leT,hk',hz]
   rw [zAa];rotate_left;kernel_rfl
   simp -implicitDefEqProofs (maxSteps:=1000000) (disch:=first|rfl|omega|assumption) only [go_sem,g0,g1,g2,g3,g8,g9,ltT,ltF,leT,hk',hz,f1,f2,f3,e1,hcc,hlt]
   rw [zAa];rotate_left;kernel_rfl
   simp -implicitDefEqProofs (maxSteps:=1000000) (disch:=first|rfl|omega|assumption) only [go_sem,g0,g1,g2,g3,g8,g9,ltT,ltF,leT,hk',hz,f1,f2,f3,e1,hcc,hlt]
   exact ih (j+1) (by omega) (swp L (a+(q+1)) (a+q)) (by rw [swp_len];exact hL) hr hsm hai _ (by exact g0) (by exact g1) (by exact g2) (by exact g3) (by exact g8) (by rfl)
  ·rw [if_neg hlt] at hr
   subst hr
   simp only [zA6,zA4,zA5,zA7,zA3,↓reduceIte,Option.some.injEq,Nat.reduceEqDiff,reduceCtorEq,Tryz.f96]
   rw [zA0]
   simp -implicitDefEqProofs (maxSteps:=1000000) (disch:=first|rfl|omega|assumption) only [go_sem,g0,g1,g2,g3,g8,g9,ltT,ltF,leT,hk',hz]
   rw [zAa];rotate_left;kernel_rfl
   simp -implicitDefEqProofs (maxSteps:=1000000) (disch:=first|rfl|omega|assumption) only [go_sem,g0,g1,g2,g3,g8,g9,ltT,ltF,leT,hk',hz,f1,f2,f3,e1,hcc,hlt]
   exact hK _ (by exact g0) (by exact g1) (by exact g2) (by exact g3) (by exact g8)
theorem insIn_small {B:Nat} (key:Nat→Int) (a:Nat):∀ (q:Nat) (L:List Nat),Small B L→a+q<L.length→Small B (insIn key a L q)
 | 0,_,h,_=>h
 | q+1,L,h,hq=>by
  rw [insIn]
  split
  ·exact insIn_small key a q _ (swp_mem h (by omega) (by omega)) (by rw [swp_len];omega)
  ·exact h
theorem insOut_loop {fn:Fn} {cap:List AV} {key:Nat→Int} {B:Nat} (hc:Cmp fn cap key B) {p:Nat} (hp:p<H.length) (a b:Nat) (n:Nat) (hn:n≤100000) (hab:a≤b∧b≤n) (R0:List Nat) :
  ∀ (q j:Nat),j+q=b→∀ (L:List Nat),L.length=n→insOut key a L j q=R0→Small B L→a<j→∀ E:Env,E.get 0=.gsl p n→E.get 1=I a→E.get 2=I b→E.get 3=.func fn [] cap→E.get 8=I j →
  Option.map (zAd H.length) (zAe cfg0 zA2 ⟨96,none,false,H.length⟩ (zA5 Tryz.f96 1) ⟨E,[],GH H p L,none⟩)=some ⟨.ret (.tup []),GH H p R0,none⟩:=by
 intro q
 skip
 induction q with
 | zero =>
  intro j hj L hL hr hB hai E g0 g1 g2 g3 g8
  have hk':¬ (j:Int)<((b:Nat):Int):=by omega
  simp only [insOut] at hr
  subst hr
  simp only [zA6,zA4,zA5,zA7,zA3,↓reduceIte,Option.some.injEq,Nat.reduceEqDiff,reduceCtorEq,Tryz.f96]
  rw [zA0]
  simp -implicitDefEqProofs (maxSteps:=1000000) (disch:=first|rfl|omega|assumption) only [go_sem,g0,g1,g2,g3,g8,ltT,ltF,leT,hk']
 | succ q ih =>
  intro j hj L hL hr hB hai E g0 g1 g2 g3 g8
  have hk':(j:Int)<((b:Nat):Int):=by omega
  have hk2:j<b:=by omega
  simp only [insOut] at hr
  simp only [zA6,zA4,zA5,zA7,zA3,↓reduceIte,Option.some.injEq,Nat.reduceEqDiff,reduceCtorEq,Tryz.f96]
  rw [zA0]
  simp -implicitDefEqProofs (maxSteps:=1000000) (disch:=first|rfl|omega|assumption) only [go_sem,g0,g1,g2,g3,g8,ltT,ltF,leT,hk']
  refine insIn_loop hc hp a b j n hn (by omega) (insIn key a L (j-a)) _ _ (fun E g0 g1 g2 g3 g8=>?_) (j-a) 0 (by omega) L hL rfl hB (by omega) _ (by exact g0) (by exact g1) (by exact g2) (by exact g3) (by exact g8) (by rw [show a+(j-a)=j by omega];rfl)
  simp -implicitDefEqProofs (maxSteps:=1000000) (disch:=first|rfl|omega|assumption) only [go_sem,g0,g1,g2,g3,g8,ltT,ltF,leT,hk']
  exact ih (j+1) (by omega) _ (by rw [insIn_len];exact hL) hr (insIn_small key a _ _ hB (by omega)) (by omega) _ (by exact g0) (by exact g1) (by exact g2) (by exact g3) (by rfl)
theorem so_ins {fn:Fn} {cap:List AV} {key:Nat→Int} {B:Nat} (hc:Cmp fn cap key B) {p:Nat} (hp:p<H.length) {a b n:Nat} (hn:n≤100000) (hab:a≤b∧b≤n) {L:List Nat} (hL:L.length=n) (hB:Small B L) :
  zA9 cfg0 zA2 false 96 [.gsl p n,I a,I b,.func fn [] cap] (GH H p L) none=some ⟨.ret (.tup []),GH H p (insS key L a b),none⟩:=by
 have hlen:(GH H p L).length=H.length:=by simp [GH]
 by_cases h:a+1≤b
 ·have h1:=insOut_loop hc hp a b n hn hab (insS key L a b) (b-(a+1)) (a+1) (by omega) L hL rfl hB (by omega)
  refine (zA1 fn96 rfl (by simp [Tryz.f96])).trans ?_
  simp -implicitDefEqProofs (maxSteps:=1000000) (disch:=first|rfl|omega|assumption) only [go_sem,ltT,ltF,leT,hlen]
  exact h1 _ (by rfl) (by rfl) (by rfl) (by rfl) (by rfl)
 ·have e:insS key L a b=L:=by simp only [insS,show b-(a+1)=0 by omega,insOut]
  rw [e]
  have hz:¬ (a:Int)+1<b:=by omega
  refine (zA1 fn96 rfl (by simp [Tryz.f96])).trans ?_
  simp -implicitDefEqProofs (maxSteps:=1000000) (disch:=first|rfl|omega|assumption) only [go_sem,ltT,ltF,leT,hlen]
  rw [zA0]
  simp -implicitDefEqProofs (maxSteps:=1000000) (disch:=first|rfl|omega|assumption) only [go_sem,ltT,ltF,leT,hz,hlen]
end Go.Ab
namespace Go.Ab
set_option linter.unusedSimpArgs false
set_option linter.unusedVariables false
abbrev gt (L:List Nat) (k:Nat):Nat:=L.getD k 0
theorem gt_swp {L:List Nat} {i j:Nat} (hi:i<L.length) (hj:j<L.length) (k:Nat):gt (swp L i j) k=if j=k then gt L i else if i=k then gt L j else gt L k:=by
 simp only [gt,swp,List.getD,List.getElem?_set,List.length_set]
 by_cases h4:j=k
 ·subst h4;simp [hj]
 ·by_cases h5:i=k
  ·subst h5;simp [h4,hi]
  ·simp [h4,h5]
structure Sm (f g:Nat→Nat) (a b:Nat):Prop where
 out:∀ k,(k<a∨b≤k)→g k=f k
 fwd:∀ k,a≤k→k<b→∃ j,a≤j∧j<b∧g k=f j
 bwd:∀ k,a≤k→k<b→∃ j,a≤j∧j<b∧f k=g j
theorem Sm.refl (f:Nat→Nat) (a b:Nat):Sm f f a b:=⟨fun _ _=>rfl,fun k h1 h2=>⟨k,h1,h2,rfl⟩,fun k h1 h2=>⟨k,h1,h2,rfl⟩⟩
theorem Sm.trans {f g h:Nat→Nat} {a b:Nat} (p:Sm f g a b) (q:Sm g h a b):Sm f h a b where
 out k hk:=(q.out k hk).trans (p.out k hk)
 fwd k h1 h2:=by
  obtain ⟨j,j1,j2,e⟩:=q.fwd k h1 h2
  obtain ⟨i,i1,i2,e'⟩:=p.fwd j j1 j2
  exact ⟨i,i1,i2,e.trans e'⟩
 bwd k h1 h2:=by
  obtain ⟨j,j1,j2,e⟩:=p.bwd k h1 h2
  obtain ⟨i,i1,i2,e'⟩:=q.bwd j j1 j2
  exact ⟨i,i1,i2,e.trans e'⟩
theorem Sm.wide {f g:Nat→Nat} {a b a' b':Nat} (p:Sm f g a b) (ha:a'≤a) (hb:b≤b'):Sm f g a' b' where
 out k hk:=p.out k (by omega)
 fwd k h1 h2:=by
  by_cases h:a≤k∧k<b
  ·obtain ⟨j,j1,j2,e⟩:=p.fwd k h.1 h.2
   exact ⟨j,by omega,by omega,e⟩
  ·exact ⟨k,h1,h2,p.out k (by omega)⟩
 bwd k h1 h2:=by
  by_cases h:a≤k∧k<b
  ·obtain ⟨j,j1,j2,e⟩:=p.bwd k h.1 h.2
   exact ⟨j,by omega,by omega,e⟩
  ·exact ⟨k,h1,h2,(p.out k (by omega)).symm⟩
theorem Sm.all {f g:Nat→Nat} {a b:Nat} (p:Sm f g a b) {Q:Nat→Prop} (h:∀ k,a≤k→k<b→Q (f k)):∀ k,a≤k→k<b→Q (g k):=by
 intro k h1 h2
 obtain ⟨j,j1,j2,e⟩:=p.fwd k h1 h2
 exact e ▸ h j j1 j2
theorem sm_swp {L:List Nat} {i j a b:Nat} (hi:i<L.length) (hj:j<L.length) (h1:a≤i∧i<b) (h2:a≤j∧j<b):Sm (gt L) (gt (swp L i j)) a b where
 out k hk:=by rw [gt_swp hi hj,if_neg (by omega),if_neg (by omega)]
 fwd k k1 k2:=by
  rw [gt_swp hi hj]
  by_cases e1:j=k
  ·rw [if_pos e1];exact ⟨i,h1.1,h1.2,rfl⟩
  ·rw [if_neg e1]
   by_cases e2:i=k
   ·rw [if_pos e2];exact ⟨j,h2.1,h2.2,rfl⟩
   ·rw [if_neg e2];exact ⟨k,k1,k2,rfl⟩
 bwd k k1 k2:=by
  by_cases e1:j=k
  ·subst e1
   refine ⟨i,h1.1,h1.2,?_⟩
   rw [gt_swp hi hj]
   by_cases e2:j=i
   ·rw [if_pos e2,e2]
   ·rw [if_neg e2,if_pos rfl]
  ·by_cases e2:i=k
   ·subst e2
    exact ⟨j,h2.1,h2.2,by rw [gt_swp hi hj,if_pos rfl]⟩
   ·exact ⟨k,k1,k2,by rw [gt_swp hi hj,if_neg e1,if_neg e2]⟩
section
variable (key:Nat→Int)
variable {rk:Nat→Nat}
def lx (rk:Nat→Nat) (x y:Nat):Prop:=key x<key y∨key x=key y∧rk x<rk y
variable {key}
theorem lx_trans {x y z:Nat} (h:lx key rk x y) (g:lx key rk y z):lx key rk x z:=by
 simp only [lx] at *
 omega
variable (key)
def Srt (rk:Nat→Nat) (f:Nat→Nat) (a b:Nat):Prop:=∀ i j,a≤i→i<j→j<b→lx key rk (f i) (f j)
variable {key}
theorem Srt.sub {f:Nat→Nat} {a b a' b':Nat} (h:Srt key rk f a b) (ha:a≤a') (hb:b'≤b):Srt key rk f a' b':=fun i j h1 h2 h3=>h i j (by omega) h2 (by omega)
theorem Srt.cong {f g:Nat→Nat} {a b:Nat} (h:Srt key rk f a b) (e:∀ k,a≤k→k<b→g k=f k):Srt key rk g a b:=by
 intro i j h1 h2 h3
 rw [e i h1 (by omega),e j (by omega) h3]
 exact h i j h1 h2 h3
theorem Srt.join {f:Nat→Nat} {a m b:Nat} (h:Srt key rk f a m) (g:Srt key rk f m b) (c:∀ i j,a≤i→i<m→m≤j→j<b→lx key rk (f i) (f j)):Srt key rk f a b:=by
 intro i j h1 h2 h3
 by_cases hj:j<m
 ·exact h i j h1 h2 hj
 ·by_cases hi:i<m
  ·exact c i j h1 hi (by omega) h3
  ·exact g i j (by omega) h2 h3
structure InsInv (f:Nat→Nat) (a q Q:Nat):Prop where
 rest:∀ i j,a≤i→i<j→j<a+Q+1→i≠a+q→j≠a+q→lx key rk (f i) (f j)
 up:∀ j,a+q<j→j<a+Q+1→lx key rk (f (a+q)) (f j)
 low:∀ i,a≤i→i<a+q→key (f i)=key (f (a+q))→rk (f i)<rk (f (a+q))
theorem insIn_srt (a Q:Nat):∀ (q:Nat) (L:List Nat),q≤Q→a+Q<L.length→InsInv (key:=key) (rk:=rk) (gt L) a q Q→Srt key rk (gt (insIn key a L q)) a (a+Q+1)∧Sm (gt L) (gt (insIn key a L q)) a (a+Q+1)
 | 0,L,_,hl,h=>by
  refine ⟨fun i j h1 h2 h3=>?_,Sm.refl ..⟩
  by_cases hi:i=a+0
  ·subst hi
   exact h.up j h2 h3
  ·exact h.rest i j h1 h2 h3 hi (by omega)
 | q+1,L,hq,hl,h=>by
  rw [insIn]
  split
  ·rename_i hc
   have g:=@gt_swp L (a+q+1) (a+q) (by omega) (by omega)
   have h2:InsInv (key:=key) (rk:=rk) (gt (swp L (a+q+1) (a+q))) a q Q:=by
    refine ⟨fun i j h1 h2 h3 h4 h5=>?_,fun j h1 h2=>?_,fun i h1 h2=>?_⟩
    ·rw [g i,g j,if_neg (Ne.symm h4),if_neg (Ne.symm h5)]
     by_cases hi:a+q+1=i
     ·rw [if_pos hi,if_neg (by omega)]
      exact h.rest _ _ (by omega) (by omega) h3 (by omega) (by omega)
     ·rw [if_neg hi]
      by_cases hj:a+q+1=j
      ·rw [if_pos hj]
       exact h.rest _ _ h1 (by omega) (by omega) (by omega) (by omega)
      ·rw [if_neg hj]
       exact h.rest _ _ h1 h2 h3 (by omega) (by omega)
    ·rw [g (a+q),g j,if_pos rfl,if_neg (by omega)]
     by_cases hj:a+q+1=j
     ·rw [if_pos hj]
      exact .inl (by simp only [gt];omega)
     ·rw [if_neg hj]
      exact h.up j (by omega) h2
    ·rw [g (a+q),g i,if_pos rfl,if_neg (by omega),if_neg (by omega)]
     exact h.low i h1 (by omega)
   obtain ⟨r1,r2⟩:=insIn_srt a Q q (swp L (a+q+1) (a+q)) (by omega) (by rw [swp_len];exact hl) h2
   exact ⟨r1,(sm_swp (by omega) (by omega) (by omega) (by omega)).trans r2⟩
  ·rename_i hc
   refine ⟨fun i j h1 h2 h3=>?_,Sm.refl ..⟩
   have hle:lx key rk (gt L (a+q)) (gt L (a+q+1)):=by
    by_cases he:key (gt L (a+q))=key (gt L (a+(q+1)))
    ·exact .inr ⟨he,h.low _ (by omega) (by omega) he⟩
    ·exact .inl (by simp only [gt] at he hc ⊢;rw [← Nat.add_assoc] at he;omega)
   by_cases hi:i=a+(q+1)
   ·subst hi
    exact h.up j h2 h3
   ·by_cases hj:j=a+(q+1)
    ·subst hj
     by_cases hi2:i=a+q
     ·subst hi2
      exact hle
     ·exact lx_trans (h.rest i (a+q) h1 (by omega) (by omega) hi (by omega)) hle
    ·exact h.rest i j h1 h2 h3 hi hj
theorem insOut_srt (a b:Nat):∀ (q i:Nat) (L:List Nat),i+q=b→a<i→b≤L.length→Srt key rk (gt L) a i→(∀ k l,a≤k→k<l→i≤l→l<b→rk (gt L k)<rk (gt L l))→Srt key rk (gt (insOut key a L i q)) a b∧Sm (gt L) (gt (insOut key a L i q)) a b
 | 0,i,L,hi,ha,hl,h,_=>by
  obtain rfl:i=b:=by omega
  exact ⟨h,Sm.refl ..⟩
 | q+1,i,L,hi,ha,hl,h,hu=>by
  rw [insOut]
  have hinv:InsInv (key:=key) (rk:=rk) (gt L) a (i-a) (i-a):=by
   refine ⟨fun k l h1 h2 h3 h4 h5=>h k l h1 h2 (by omega),fun j h1 h2=>by omega,fun k h1 h2 _=>hu k _ h1 h2 (by omega) (by omega)⟩
  obtain ⟨r1,r2⟩:=insIn_srt a (i-a) (i-a) L (Nat.le_refl _) (by omega) hinv
  have e:a+(i-a)+1=i+1:=by omega
  rw [e] at r1 r2
  obtain ⟨s1,s2⟩:=insOut_srt a b q (i+1) (insIn key a L (i-a)) (by omega) (by omega) (by rw [insIn_len];exact hl) r1 (fun k l h1 h2 h3 h4=>by
   rw [r2.out l (by omega)]
   by_cases hk:k<i+1
   ·exact r2.all (Q:=fun x=>rk x<rk (gt L l)) (fun k' g1 g2=>hu k' l g1 (by omega) (by omega) h4) k h1 hk
   ·rw [r2.out k (by omega)]
    exact hu k l h1 h2 (by omega) h4)
  exact ⟨s1,(r2.wide (Nat.le_refl _) (by omega)).trans s2⟩
theorem insS_srt {a b:Nat} {L:List Nat} (hab:a≤b) (hl:b≤L.length) (hu:∀ k l,a≤k→k<l→l<b→rk (gt L k)<rk (gt L l)):Srt key rk (gt (insS key L a b)) a b∧Sm (gt L) (gt (insS key L a b)) a b:=by
 by_cases h:a+1≤b
 ·exact insOut_srt a b (b-(a+1)) (a+1) L (by omega) (by omega) hl (fun i j h1 h2 h3=>by omega) (fun k l h1 h2 h3 h4=>hu k l h1 h2 h4)
 ·rw [insS,show b-(a+1)=0 by omega,insOut]
  exact ⟨fun i j h1 h2 h3=>by omega,Sm.refl ..⟩
end
def swR (a b:Nat):List Nat→Nat→Nat→List Nat
 | L,_,0=>L
 | L,i,q+1=>swR a b (swp L (a+i) (b+i)) (i+1) q
theorem swR_len (a b:Nat):∀ (q i:Nat) (L:List Nat),(swR a b L i q).length=L.length
 | 0,_,_=>rfl
 | q+1,i,L=>by rw [swR,swR_len a b q,swp_len]
theorem gt_swR (a b:Nat):∀ (q i:Nat) (L:List Nat),a+i+q≤b+i→b+i+q≤L.length→∀ k,gt (swR a b L i q) k=if a+i≤k∧k<a+i+q then gt L (k-a+b) else if b+i≤k∧k<b+i+q then gt L (k-b+a) else gt L k
 | 0,i,L,_,_,k=>by rw [swR,if_neg (by omega),if_neg (by omega)]
 | q+1,i,L,h1,h2,k=>by
  rw [swR,gt_swR a b q (i+1) _ (by omega) (by rw [swp_len];omega)]
  have g:=@gt_swp L (a+i) (b+i) (by omega) (by omega)
  by_cases c1:a+(i+1)≤k∧k<a+(i+1)+q
  ·rw [if_pos c1,if_pos (by omega),g,if_neg (by omega),if_neg (by omega)]
  ·rw [if_neg c1]
   by_cases c2:b+(i+1)≤k∧k<b+(i+1)+q
   ·rw [if_pos c2,if_neg (by omega),if_pos (by omega),g,if_neg (by omega),if_neg (by omega)]
   ·rw [if_neg c2,g]
    by_cases c3:b+i=k
    ·rw [if_pos c3,if_neg (by omega),if_pos (by omega)]
     congr 1;omega
    ·rw [if_neg c3]
     by_cases c4:a+i=k
     ·rw [if_pos c4,if_pos (by omega)]
      congr 1;omega
     ·rw [if_neg c4,if_neg (by omega),if_neg (by omega)]
def rot (m:Nat):Nat→List Nat→Nat→Nat→List Nat
 | 0,L,_,_=>L
 | f+1,L,i,j=>if i=j then swR (m-i) m L 0 i else if j<i then rot m f (swR (m-i) m L 0 j) (i-j) j else rot m f (swR (m-i) (m+j-i) L 0 i) i (j-i)
theorem rot_len (m:Nat):∀ (f:Nat) (L:List Nat) (i j:Nat),(rot m f L i j).length=L.length
 | 0,_,_,_=>rfl
 | f+1,L,i,j=>by
  rw [rot]
  split
  ·rw [swR_len]
  ·split
   ·rw [rot_len m f,swR_len]
   ·rw [rot_len m f,swR_len]
theorem gt_rot (m:Nat):∀ (f:Nat) (L:List Nat) (i j:Nat),i+j≤f→0<i→0<j→i≤m→m+j≤L.length→∀ k,gt (rot m f L i j) k=if m-i≤k∧k<m-i+j then gt L (k+i) else if m-i+j≤k∧k<m+j then gt L (k-j) else gt L k
 | 0,L,i,j,h,h1,_,_,_,_=>by omega
 | f+1,L,i,j,h,hi,hj,him,hl,k=>by
  rw [rot]
  by_cases e:i=j
  ·subst e
   rw [if_pos rfl,gt_swR _ _ _ _ _ (by omega) (by omega)]
   by_cases c1:m-i≤k∧k<m-i+i
   ·rw [if_pos (by omega),if_pos c1];congr 1;omega
   ·rw [if_neg (by omega),if_neg c1]
    by_cases c2:m-i+i≤k∧k<m+i
    ·rw [if_pos (by omega),if_pos c2];congr 1;omega
    ·rw [if_neg (by omega),if_neg c2]
  ·rw [if_neg e]
   by_cases c:j<i
   ·rw [if_pos c,gt_rot m f _ (i-j) j (by omega) (by omega) hj (by omega) (by rw [swR_len];exact hl)]
    have g:=gt_swR (m-i) m j 0 L (by omega) (by omega)
    rw [g,g,g]
    by_cases c1:m-(i-j)≤k∧k<m-(i-j)+j
    ·rw [if_pos c1]
     by_cases c2:m≤k+(i-j)
     ·rw [if_neg (by omega),if_pos (by omega),if_neg (by omega),if_pos (by omega)];congr 1;omega
     ·omega
    ·rw [if_neg c1]
     by_cases c2:m-(i-j)+j≤k∧k<m+j
     ·rw [if_pos c2,if_neg (by omega),if_neg (by omega),if_neg (by omega),if_pos (by omega)]
     ·rw [if_neg c2]
      by_cases c3:m-i≤k∧k<m-i+j
      ·rw [if_pos (by omega),if_pos c3];congr 1;omega
      ·rw [if_neg (by omega),if_neg (by omega),if_neg c3,if_neg (by omega)]
   ·rw [if_neg c,gt_rot m f _ i (j-i) (by omega) hi (by omega) him (by rw [swR_len];omega)]
    have g:=gt_swR (m-i) (m+j-i) i 0 L (by omega) (by omega)
    rw [g,g,g]
    obtain ⟨u,hu⟩:∃ u,m=u+i:=⟨m-i,by omega⟩
    obtain ⟨v,hv⟩:∃ v,j=v+i:=⟨j-i,by omega⟩
    subst hu
    subst hv
    have e1:u+i-i=u:=by omega
    have e2:v+i-i=v:=by omega
    have e3:u+i+(v+i)-i=u+i+v:=by omega
    rw [e1,e2,e3]
    by_cases c1:u≤k∧k<u+v
    ·rw [if_pos c1,if_neg (by omega),if_neg (by omega),if_pos (by omega)]
    ·rw [if_neg c1]
     by_cases c2:u+v≤k∧k<u+i+v
     ·rw [if_pos c2,if_pos (by omega),if_pos (by omega)];congr 1;omega
     ·rw [if_neg c2,if_neg (by omega)]
      by_cases c4:u+i+v≤k∧k<u+i+(v+i)
      ·rw [if_pos (by omega),if_neg (by omega),if_pos (by omega)];congr 1;omega
      ·rw [if_neg (by omega),if_neg (by omega),if_neg (by omega)]
theorem sm_rot {m f:Nat} {L:List Nat} {i j:Nat} (h:i+j≤f) (hi:0<i) (hj:0<j) (him:i≤m) (hl:m+j≤L.length):Sm (gt L) (gt (rot m f L i j)) (m-i) (m+j):=by
 have g:=gt_rot m f L i j h hi hj him hl
 refine ⟨fun k hk=>by rw [g,if_neg (by omega),if_neg (by omega)],fun k h1 h2=>?_,fun k h1 h2=>?_⟩
 ·by_cases c:k<m-i+j
  ·exact ⟨k+i,by omega,by omega,by rw [g,if_pos ⟨h1,c⟩]⟩
  ·exact ⟨k-j,by omega,by omega,by rw [g,if_neg (by omega),if_pos (by omega)]⟩
 ·by_cases c:k<m
  ·exact ⟨k+j,by omega,by omega,by rw [g,if_neg (by omega),if_pos (by omega)];congr 1;omega⟩
  ·exact ⟨k-i,by omega,by omega,by rw [g,if_pos (by omega)];congr 1;omega⟩
def bsr (P:Nat→Bool):Nat→Nat→Nat→Nat
 | 0,i,_=>i
 | f+1,i,j=>if i<j then (if P ((i+j)/2) then bsr P f ((i+j)/2+1) j else bsr P f i ((i+j)/2)) else i
theorem bs_spec (P:Nat→Bool) (lo hi:Nat) (hP:∀ x y,lo≤x→x≤y→y<hi→P y=true→P x=true):∀ (f i j:Nat),j-i<f→lo≤i→i≤j→j≤hi→(∀ x,lo≤x→x<i→P x=true)→(∀ x,j≤x→x<hi→P x=false) →
  lo≤bsr P f i j∧bsr P f i j≤hi∧(∀ x,lo≤x→x<bsr P f i j→P x=true)∧∀ x,bsr P f i j≤x→x<hi→P x=false
 | 0,i,j,h,_,_,_,_,_=>by omega
 | f+1,i,j,h,h1,h2,h3,h4,h5=>by
  rw [bsr]
  by_cases c:i<j
  ·rw [if_pos c]
   by_cases p:P ((i+j)/2)=true
   ·rw [if_pos p]
    exact bs_spec P lo hi hP f _ j (by omega) (by omega) (by omega) h3 (fun x g1 g2=>hP x _ g1 (show x≤(i+j)/2 by omega) (by omega) p) h5
   ·rw [if_neg p]
    refine bs_spec P lo hi hP f i _ (by omega) h1 (by omega) (by omega) h4 (fun x g1 g2=>?_)
    rw [← Bool.not_eq_true]
    exact fun hx=>p (hP _ x (by omega) g1 g2 hx)
  ·rw [if_neg c]
   obtain rfl:i=j:=by omega
   exact ⟨h1,h3,h4,h5⟩
def upS:List Nat→Nat→Nat→List Nat
 | L,_,0=>L
 | L,k,q+1=>upS (swp L k (k+1)) (k+1) q
def dnS:List Nat→Nat→Nat→List Nat
 | L,_,0=>L
 | L,i,q+1=>dnS (swp L (i+q+1) (i+q)) i q
theorem upS_len:∀ (q k:Nat) (L:List Nat),(upS L k q).length=L.length
 | 0,_,_=>rfl
 | q+1,k,L=>by rw [upS,upS_len q,swp_len]
theorem dnS_len:∀ (q k:Nat) (L:List Nat),(dnS L k q).length=L.length
 | 0,_,_=>rfl
 | q+1,k,L=>by rw [dnS,dnS_len q,swp_len]
theorem gt_upS:∀ (q a:Nat) (L:List Nat),a+q<L.length→∀ k,gt (upS L a q) k=if a≤k∧k<a+q then gt L (k+1) else if k=a+q then gt L a else gt L k
 | 0,a,L,h,k=>by
  rw [upS,if_neg (by omega)]
  split
  ·rename_i h;rw [h];rfl
  ·rfl
 | q+1,a,L,h,k=>by
  have g:=@gt_swp L a (a+1) (by omega) (by omega)
  rw [upS,gt_upS q (a+1) _ (by rw [swp_len];omega),g,g,g]
  by_cases c1:a+1≤k∧k<a+1+q
  ·rw [if_pos c1,if_neg (by omega),if_neg (by omega),if_pos (by omega)]
  ·rw [if_neg c1]
   by_cases c2:k=a+1+q
   ·rw [if_pos c2,if_pos rfl,if_neg (by omega),if_pos (by omega)]
   ·rw [if_neg c2,if_neg (by omega)]
    by_cases c3:a=k
    ·rw [if_pos c3,if_pos (by omega),c3]
    ·rw [if_neg c3,if_neg (by omega),if_neg (by omega)]
theorem gt_dnS:∀ (q a:Nat) (L:List Nat),a+q<L.length→∀ k,gt (dnS L a q) k=if k=a then gt L (a+q) else if a<k∧k≤a+q then gt L (k-1) else gt L k
 | 0,a,L,h,k=>by
  rw [dnS]
  split
  ·rename_i h;rw [h];rfl
  ·rw [if_neg (by omega)]
 | q+1,a,L,h,k=>by
  have g:=@gt_swp L (a+q+1) (a+q) (by omega) (by omega)
  rw [dnS,gt_dnS q a _ (by rw [swp_len];omega),g,g,g]
  by_cases c1:k=a
  ·rw [if_pos c1,if_pos rfl,if_pos c1];rfl
  ·rw [if_neg c1,if_neg c1]
   by_cases c2:a<k∧k≤a+q
   ·rw [if_pos c2,if_neg (by omega),if_neg (by omega),if_pos (by omega)]
   ·rw [if_neg c2]
    by_cases c3:k=a+q+1
    ·rw [if_neg (by omega),if_pos (by omega),if_pos (by omega)];congr 1;omega
    ·rw [if_neg (by omega),if_neg (by omega),if_neg (by omega)]
section
variable (key:Nat→Int)
variable {rk:Nat→Nat}
def symA (L:List Nat) (a m b:Nat):List Nat:=upS L a (bsr (fun h=>decide (key (gt L h)-key (gt L a)<0)) (b-m+1) m b-1-a)
def symB (L:List Nat) (a m b:Nat):List Nat:=dnS L (bsr (fun h=>!decide (key (gt L m)-key (gt L h)<0)) (m-a+1) a m) (m-bsr (fun h=>!decide (key (gt L m)-key (gt L h)<0)) (m-a+1) a m)
def symS (L:List Nat) (a m b:Nat):Nat :=
 bsr (fun c=>!decide (key (gt L ((a+b)/2+m-1-c))-key (gt L c)<0)) ((if (a+b)/2<m then (a+b)/2 else m)-(if (a+b)/2<m then (a+b)/2+m-b else a)+1) (if (a+b)/2<m then (a+b)/2+m-b else a) (if (a+b)/2<m then (a+b)/2 else m)
def sym:Nat→List Nat→Nat→Nat→Nat→List Nat
 | 0,L,_,_,_=>L
 | f+1,L,a,m,b =>
  if m-a=1 then symA key L a m b else if b-m=1 then symB key L a m b else
  let mid:=(a+b)/2
  let s:=symS key L a m b
  let e:=mid+m-s
  let L1:=if s<m∧m<e then rot m (e-s) L (m-s) (e-m) else L
  let L2:=if a<s∧s<mid then sym f L1 a s mid else L1
  if mid<e∧e<b then sym f L2 mid e b else L2
variable {key}
structure SymPre (f:Nat→Nat) (a m b:Nat):Prop where
 am:a<m
 mb:m<b
 l:Srt key rk f a m
 r:Srt key rk f m b
 x:∀ i j,a≤i→i<m→m≤j→j<b→key (f i)=key (f j)→rk (f i)<rk (f j)
theorem SymPre.lt {f:Nat→Nat} {a m b:Nat} (h:SymPre (key:=key) (rk:=rk) f a m b) {i j:Nat} (h1:a≤i) (h2:i<m) (h3:m≤j) (h4:j<b):lx key rk (f i) (f j)↔¬ key (f j)-key (f i)<0:=by
 have:=h.x i j h1 h2 h3 h4
 simp only [lx]
 omega
theorem SymPre.gt {f:Nat→Nat} {a m b:Nat} (h:SymPre (key:=key) (rk:=rk) f a m b) {i j:Nat} (h1:a≤i) (h2:i<m) (h3:m≤j) (h4:j<b) (hk:key (f j)-key (f i)<0):lx key rk (f j) (f i):=.inl (by omega)
theorem symA_srt {L:List Nat} {a m b:Nat} (h:SymPre (key:=key) (rk:=rk) (gt L) a m b) (hl:b≤L.length) (h1:m-a=1):Srt key rk (gt (symA key L a m b)) a b∧Sm (gt L) (gt (symA key L a m b)) a b:=by
 have hm:m=a+1:=by have:=h.am;omega
 subst hm
 have hmb:=h.mb
 obtain ⟨b1,b2,b3,b4⟩:=bs_spec (fun h=>decide (key (gt L h)-key (gt L a)<0)) (a+1) b (fun x y g1 g2 g3 g4=>by
  simp only [decide_eq_true_eq] at g4 ⊢
  by_cases hxy:x=y
  ·subst hxy;exact g4
  ·have:=h.r x y g1 (by omega) g3
   simp only [lx] at this
   omega) (b-(a+1)+1) (a+1) b (by omega) (by omega) (by omega) (by omega) (by omega) (by omega)
 simp only [symA]
 generalize bsr (fun h=>decide (key (gt L h)-key (gt L a)<0)) (b-(a+1)+1) (a+1) b=t at *
 have g:=gt_upS (t-1-a) a L (by omega)
 simp only [decide_eq_true_eq,decide_eq_false_iff_not] at b3 b4
 constructor
 ·intro i j i1 i2 i3
  rw [g,g]
  by_cases c1:a≤i∧i<a+(t-1-a)
  ·rw [if_pos c1]
   by_cases c2:a≤j∧j<a+(t-1-a)
   ·rw [if_pos c2]
    exact h.r _ _ (by omega) (by omega) (by omega)
   ·rw [if_neg c2]
    split
    ·exact h.gt (Nat.le_refl _) (by omega) (by omega) (by omega) (b3 (i+1) (by omega) (by omega))
    ·exact h.r _ _ (by omega) (by omega) (by omega)
  ·rw [if_neg c1]
   by_cases c2:i=a+(t-1-a)
   ·rw [if_pos c2,if_neg (by omega),if_neg (by omega)]
    exact (h.lt (Nat.le_refl _) (by omega) (by omega) (by omega)).2 (b4 j (by omega) (by omega))
   ·rw [if_neg c2,if_neg (by omega),if_neg (by omega)]
    exact h.r _ _ (by omega) (by omega) (by omega)
 ·refine ⟨fun k hk=>by rw [g,if_neg (by omega),if_neg (by omega)],fun k k1 k2=>?_,fun k k1 k2=>?_⟩
  ·rw [g]
   split
   ·exact ⟨k+1,by omega,by omega,rfl⟩
   ·split
    ·exact ⟨a,by omega,by omega,rfl⟩
    ·exact ⟨k,by omega,by omega,rfl⟩
  ·by_cases c1:k=a
   ·exact ⟨a+(t-1-a),by omega,by omega,by rw [g,if_neg (by omega),if_pos rfl,c1]⟩
   ·by_cases c2:k<t
    ·exact ⟨k-1,by omega,by omega,by rw [g,if_pos (by omega)];congr 1;omega⟩
    ·exact ⟨k,by omega,by omega,by rw [g,if_neg (by omega),if_neg (by omega)]⟩
theorem symB_srt {L:List Nat} {a m b:Nat} (h:SymPre (key:=key) (rk:=rk) (gt L) a m b) (hl:b≤L.length) (h1:b-m=1):Srt key rk (gt (symB key L a m b)) a b∧Sm (gt L) (gt (symB key L a m b)) a b:=by
 have hm:b=m+1:=by have:=h.mb;omega
 subst hm
 have ham:=h.am
 obtain ⟨b1,b2,b3,b4⟩:=bs_spec (fun h=>!decide (key (gt L m)-key (gt L h)<0)) a m (fun x y g1 g2 g3 g4=>by
  simp only [Bool.not_eq_true',decide_eq_false_iff_not] at g4 ⊢
  by_cases hxy:x=y
  ·subst hxy;exact g4
  ·have:=h.l x y g1 (by omega) g3
   simp only [lx] at this
   omega) (m-a+1) a m (by omega) (by omega) (by omega) (by omega) (by omega) (by omega)
 simp only [symB]
 generalize bsr (fun h=>!decide (key (gt L m)-key (gt L h)<0)) (m-a+1) a m=t at *
 have g:=gt_dnS (m-t) t L (by omega)
 simp only [Bool.not_eq_true',decide_eq_false_iff_not,Bool.not_eq_false',decide_eq_true_eq] at b3 b4
 have et:t+(m-t)=m:=by omega
 rw [et] at g
 constructor
 ·intro i j i1 i2 i3
  rw [g,g]
  by_cases c1:i=t
  ·rw [if_pos c1,if_neg (by omega),if_pos (by omega)]
   exact h.gt (i:=j-1) (by omega) (by omega) (Nat.le_refl _) (by omega) (b4 _ (by omega) (by omega))
  ·rw [if_neg c1]
   by_cases c2:t<i∧i≤m
   ·rw [if_pos c2,if_neg (by omega),if_pos (by omega)]
    exact h.l _ _ (by omega) (by omega) (by omega)
   ·rw [if_neg c2]
    by_cases c3:j=t
    ·rw [if_pos c3]
     exact (h.lt (by omega) (by omega) (Nat.le_refl _) (by omega)).2 (b3 _ (by omega) (by omega))
    ·rw [if_neg c3]
     split
     ·exact h.l _ _ (by omega) (by omega) (by omega)
     ·exact h.l _ _ (by omega) (by omega) (by omega)
 ·refine ⟨fun k hk=>by rw [g,if_neg (by omega),if_neg (by omega)],fun k k1 k2=>?_,fun k k1 k2=>?_⟩
  ·rw [g]
   split
   ·exact ⟨m,by omega,by omega,rfl⟩
   ·split
    ·exact ⟨k-1,by omega,by omega,rfl⟩
    ·exact ⟨k,by omega,by omega,rfl⟩
  ·by_cases c1:k=m
   ·exact ⟨t,by omega,by omega,by rw [g,if_pos rfl,c1]⟩
   ·by_cases c2:t≤k
    ·exact ⟨k+1,by omega,by omega,by rw [g,if_neg (by omega),if_pos (by omega)];rfl⟩
    ·exact ⟨k,by omega,by omega,by rw [g,if_neg (by omega),if_neg (by omega)]⟩
theorem symA_len (L:List Nat) (a m b:Nat):(symA key L a m b).length=L.length:=upS_len ..
theorem symB_len (L:List Nat) (a m b:Nat):(symB key L a m b).length=L.length:=dnS_len ..
theorem sym_len:∀ (f:Nat) (L:List Nat) (a m b:Nat),(sym key f L a m b).length=L.length
 | 0,_,_,_,_=>rfl
 | f+1,L,a,m,b=>by
  rw [sym]
  split
  ·exact symA_len ..
  ·split
   ·exact symB_len ..
   ·dsimp only
    repeat' split
    all_goals simp only [sym_len f,rot_len]
theorem symS_spec {L:List Nat} {a m b:Nat} (h:SymPre (key:=key) (rk:=rk) (gt L) a m b) {s:Nat} (hs:symS key L a m b=s) :
  a≤s∧s≤m∧s≤(a+b)/2∧m≤(a+b)/2+m-s∧(a+b)/2+m-s≤b∧(∀ i j,a≤i→i<s→(a+b)/2+m-s≤j→j<b→lx key rk (gt L i) (gt L j))∧∀ i j,s≤i→i<m→m≤j→j<(a+b)/2+m-s→lx key rk (gt L j) (gt L i):=by
 have ham:=h.am
 have hmb:=h.mb
 simp only [symS] at hs
 obtain ⟨lo,hlo⟩:∃ lo,(if (a+b)/2<m then (a+b)/2+m-b else a)=lo:=⟨_,rfl⟩
 obtain ⟨hi,hhi⟩:∃ hi,(if (a+b)/2<m then (a+b)/2 else m)=hi:=⟨_,rfl⟩
 rw [hlo,hhi] at hs
 have k1:a≤lo∧lo≤hi∧hi≤m∧hi≤(a+b)/2∧(a+b)/2+m-1-lo<b∧m≤(a+b)/2+m-hi∧(lo=a∨(a+b)/2+m-lo=b)∧(hi=m∨(a+b)/2=hi):=by
  split at hlo<;>split at hhi<;>omega
 obtain ⟨k1,k2,k3,k4,k5,k6,k7,k8⟩:=k1
 obtain ⟨b1,b2,b3,b4⟩:=bs_spec (fun c=>!decide (key (gt L ((a+b)/2+m-1-c))-key (gt L c)<0)) lo hi (fun x y g1 g2 g3 g4=>by
  simp only [Bool.not_eq_true',decide_eq_false_iff_not] at g4 ⊢
  by_cases hxy:x=y
  ·subst hxy;exact g4
  ·have p1:=h.l x y (by omega) (by omega) (by omega)
   have p2:=h.r ((a+b)/2+m-1-y) ((a+b)/2+m-1-x) (by omega) (by omega) (by omega)
   simp only [lx] at p1 p2
   omega) (hi-lo+1) lo hi (by omega) (by omega) (by omega) (by omega) (by omega) (by omega)
 rw [hs] at b1 b2 b3 b4
 simp only [Bool.not_eq_true',decide_eq_false_iff_not,Bool.not_eq_false',decide_eq_true_eq] at b3 b4
 refine ⟨by omega,by omega,by omega,by omega,by omega,fun i j i1 i2 i3 i4=>?_,fun i j i1 i2 i3 i4=>?_⟩
 ·have hlos:lo<s:=by omega
  have q1:=(h.lt (i:=s-1) (j:=(a+b)/2+m-1-(s-1)) (by omega) (by omega) (by omega) (by omega)).2 (b3 (s-1) (by omega) (by omega))
  have q2:lx key rk (gt L i) (gt L ((a+b)/2+m-1-(s-1))):=by
   by_cases hi:i=s-1
   ·subst hi;exact q1
   ·exact lx_trans (h.l i (s-1) i1 (by omega) (by omega)) q1
  by_cases hj:j=(a+b)/2+m-1-(s-1)
  ·subst hj;exact q2
  ·exact lx_trans q2 (h.r _ j (by omega) (by omega) i4)
 ·have hsh:s<hi:=by omega
  have q1:=h.gt (i:=s) (j:=(a+b)/2+m-1-s) (by omega) (by omega) (by omega) (by omega) (b4 s (by omega) (by omega))
  have q2:lx key rk (gt L ((a+b)/2+m-1-s)) (gt L i):=by
   by_cases hi:i=s
   ·subst hi;exact q1
   ·exact lx_trans q1 (h.l s i (by omega) (by omega) (by omega))
  by_cases hj:j=(a+b)/2+m-1-s
  ·subst hj;exact q2
  ·exact lx_trans (h.r j _ i3 (by omega) (by omega)) q2
theorem sym_srt:∀ (f:Nat) (L:List Nat) (a m b:Nat),b-a≤f→b≤L.length→SymPre (key:=key) (rk:=rk) (gt L) a m b→Srt key rk (gt (sym key f L a m b)) a b∧Sm (gt L) (gt (sym key f L a m b)) a b
 | 0,L,a,m,b,hf,_,h=>by have:=h.am;have:=h.mb;omega
 | f+1,L,a,m,b,hf,hl,h=>by
  have ham:=h.am
  have hmb:=h.mb
  rw [sym]
  by_cases c1:m-a=1
  ·rw [if_pos c1];exact symA_srt h hl c1
  rw [if_neg c1]
  by_cases c2:b-m=1
  ·rw [if_pos c2];exact symB_srt h hl c2
  rw [if_neg c2]
  dsimp only
  obtain ⟨s,hs⟩:∃ s,symS key L a m b=s:=⟨_,rfl⟩
  obtain ⟨s1,s2,s3,s4,s5,s6,s7⟩:=symS_spec h hs
  rw [hs]
  obtain ⟨mid,hmid⟩:∃ mid,(a+b)/2=mid:=⟨_,rfl⟩
  rw [hmid] at s3 s4 s5 s6 s7 ⊢
  obtain ⟨e,he⟩:∃ e,mid+m-s=e:=⟨_,rfl⟩
  rw [he] at s4 s5 s6 s7 ⊢
  obtain ⟨L1,hL1⟩:∃ L1,(if s<m∧m<e then rot m (e-s) L (m-s) (e-m) else L)=L1:=⟨_,rfl⟩
  rw [hL1]
  have hl1:L1.length=L.length:=by rw [← hL1];split<;>simp only [rot_len]
  have g:∀ k,gt L1 k=if s≤k∧k<mid then gt L (k+(m-s)) else if mid≤k∧k<e then gt L (k-(e-m)) else gt L k:=by
   intro k
   rw [← hL1]
   by_cases c:s<m∧m<e
   ·rw [if_pos c,gt_rot m _ _ _ _ (by omega) (by omega) (by omega) (by omega) (by omega)]
    have e1:m-(m-s)=s:=by omega
    have e2:s+(e-m)=mid:=by omega
    have e3:m+(e-m)=e:=by omega
    rw [e1,e2,e3]
   ·rw [if_neg c]
    by_cases d:s=m
    ·subst d
     by_cases d2:s≤k∧k<mid
     ·rw [if_pos d2,Nat.sub_self,Nat.add_zero]
     ·rw [if_neg d2,if_neg (by omega)]
    ·have:e=m:=by omega
     subst this
     rw [if_neg (by omega)]
     split
     ·rw [Nat.sub_self];rfl
     ·rfl
  have hsm1:Sm (gt L) (gt L1) a b:=by
   rw [← hL1]
   by_cases c:s<m∧m<e
   ·rw [if_pos c]
    have:=sm_rot (m:=m) (f:=e-s) (L:=L) (i:=m-s) (j:=e-m) (by omega) (by omega) (by omega) (by omega) (by omega)
    exact this.wide (by omega) (by omega)
   ·rw [if_neg c];exact Sm.refl ..
  have lft:∀ i,a≤i→i<s→gt L1 i=gt L i:=fun i h1 h2=>by rw [g,if_neg (by omega),if_neg (by omega)]
  have lfm:∀ i,s≤i→i<mid→gt L1 i=gt L (i+(m-s)):=fun i h1 h2=>by rw [g,if_pos ⟨h1,h2⟩]
  have rgm:∀ i,mid≤i→i<e→gt L1 i=gt L (i-(e-m)):=fun i h1 h2=>by rw [g,if_neg (by omega),if_pos ⟨h1,h2⟩]
  have rgt:∀ i,e≤i→i<b→gt L1 i=gt L i:=fun i h1 h2=>by rw [g,if_neg (by omega),if_neg (by omega)]
  have A1:Srt key rk (gt L1) a s:=(h.l.sub (Nat.le_refl _) s2).cong lft
  have B1:Srt key rk (gt L1) s mid:=fun i j i1 i2 i3=>by
   rw [lfm i i1 (by omega),lfm j (by omega) i3];exact h.r _ _ (by omega) (by omega) (by omega)
  have A2:Srt key rk (gt L1) mid e:=fun i j i1 i2 i3=>by
   rw [rgm i i1 (by omega),rgm j (by omega) i3];exact h.l _ _ (by omega) (by omega) (by omega)
  have B2:Srt key rk (gt L1) e b:=(h.r.sub s4 (Nat.le_refl _)).cong rgt
  have X1:∀ i j,a≤i→i<s→s≤j→j<mid→key (gt L1 i)=key (gt L1 j)→rk (gt L1 i)<rk (gt L1 j):=fun i j h1 h2 h3 h4 hk=>by
   rw [lft i h1 h2,lfm j h3 h4] at hk ⊢;exact h.x _ _ h1 (by omega) (by omega) (by omega) hk
  have X2:∀ i j,mid≤i→i<e→e≤j→j<b→key (gt L1 i)=key (gt L1 j)→rk (gt L1 i)<rk (gt L1 j):=fun i j h1 h2 h3 h4 hk=>by
   rw [rgm i h1 h2,rgt j h3 h4] at hk ⊢;exact h.x _ _ (by omega) (by omega) (by omega) (by omega) hk
  have cross:∀ i j,a≤i→i<mid→mid≤j→j<b→lx key rk (gt L1 i) (gt L1 j):=by
   intro i j h1 h2 h3 h4
   by_cases ci:i<s
   ·rw [lft i h1 ci]
    by_cases cj:j<e
    ·rw [rgm j h3 cj];exact h.l _ _ h1 (by omega) (by omega)
    ·rw [rgt j (by omega) h4];exact s6 i j h1 ci (by omega) h4
   ·rw [lfm i (by omega) h2]
    by_cases cj:j<e
    ·rw [rgm j h3 cj];exact s7 _ _ (by omega) (by omega) (by omega) (by omega)
    ·rw [rgt j (by omega) h4];exact h.r _ _ (by omega) (by omega) h4
  have hmidb:mid<b∧a<mid:=by omega
  obtain ⟨L2,hL2⟩:∃ L2,(if a<s∧s<mid then sym key f L1 a s mid else L1)=L2:=⟨_,rfl⟩
  rw [hL2]
  have hl2:L2.length=L.length:=by rw [← hL2];split<;>simp only [sym_len,hl1]
  have r2:Srt key rk (gt L2) a mid∧Sm (gt L1) (gt L2) a mid:=by
   rw [← hL2]
   by_cases c:a<s∧s<mid
   ·rw [if_pos c]
    exact sym_srt f L1 a s mid (by omega) (by omega) ⟨c.1,c.2,A1,B1,X1⟩
   ·rw [if_neg c]
    refine ⟨?_,Sm.refl ..⟩
    by_cases d:s=a
    ·subst d;exact B1
    ·have:s=mid:=by omega
     subst this;exact A1
  have out2:∀ k,mid≤k→gt L2 k=gt L1 k:=fun k hk=>r2.2.out k (.inr hk)
  obtain ⟨L3,hL3⟩:∃ L3,(if mid<e∧e<b then sym key f L2 mid e b else L2)=L3:=⟨_,rfl⟩
  rw [hL3]
  have r3:Srt key rk (gt L3) mid b∧Sm (gt L2) (gt L3) mid b:=by
   rw [← hL3]
   have A2':Srt key rk (gt L2) mid e:=A2.cong fun k h1 _=>out2 k h1
   have B2':Srt key rk (gt L2) e b:=B2.cong fun k h1 _=>out2 k (by omega)
   by_cases c:mid<e∧e<b
   ·rw [if_pos c]
    exact sym_srt f L2 mid e b (by omega) (by omega) ⟨c.1,c.2,A2',B2',fun i j h1 h2 h3 h4=>by rw [out2 i h1,out2 j (by omega)];exact X2 i j h1 h2 h3 h4⟩
   ·rw [if_neg c]
    refine ⟨?_,Sm.refl ..⟩
    by_cases d:e=mid
    ·subst d;exact B2'
    ·have:e=b:=by omega
     subst this;exact A2'
  refine ⟨Srt.join (m:=mid) (r2.1.cong fun k h1 h2=>r3.2.out k (.inl h2)) r3.1 fun i j h1 h2 h3 h4=>?_,(hsm1.trans (r2.2.wide (Nat.le_refl _) (by omega))).trans (r3.2.wide (by omega) (Nat.le_refl _))⟩
  rw [r3.2.out i (.inl h2)]
  refine r3.2.all (Q:=fun x=>lx key rk (gt L2 i) x) (fun j' g1 g2=>?_) j h3 h4
  rw [out2 j' g1]
  exact r2.2.all (Q:=fun x=>lx key rk x (gt L1 j')) (fun i' e1 e2=>cross i' j' e1 e2 g1 g2) i h1 h2
end
section
variable (key:Nat→Int)
variable {rk:Nat→Nat}
def stI (n:Nat):Nat→List Nat→Nat→List Nat
 | 0,L,_=>L
 | f+1,L,a=>if a+20≤n then stI n f (insS key L a (a+20)) (a+20) else insS key L a n
def stM (s n:Nat):Nat→List Nat→Nat→List Nat
 | 0,L,_=>L
 | f+1,L,a=>if a+2*s≤n then stM s n f (sym key n L a (a+s) (a+2*s)) (a+2*s) else if a+s<n then sym key n L a (a+s) n else L
def stP (n:Nat):Nat→List Nat→Nat→List Nat
 | 0,L,_=>L
 | f+1,L,s=>if s<n then stP n f (stM key s n (n+1) L 0) (2*s) else L
def stab (n:Nat) (L:List Nat):List Nat:=stP key n (n+1) (stI key n (n+1) L 0) 20
theorem insS_len (L:List Nat) (a b:Nat):(insS key L a b).length=L.length:=insOut_len ..
theorem stI_len (n:Nat):∀ (f:Nat) (L:List Nat) (a:Nat),(stI key n f L a).length=L.length
 | 0,_,_=>rfl
 | f+1,L,a=>by
  rw [stI]
  split
  ·rw [stI_len n f,insS_len]
  ·rw [insS_len]
theorem stM_len (s n:Nat):∀ (f:Nat) (L:List Nat) (a:Nat),(stM key s n f L a).length=L.length
 | 0,_,_=>rfl
 | f+1,L,a=>by
  rw [stM]
  split
  ·rw [stM_len s n f,sym_len]
  ·split
   ·rw [sym_len]
   ·rfl
theorem stP_len (n:Nat):∀ (f:Nat) (L:List Nat) (s:Nat),(stP key n f L s).length=L.length
 | 0,_,_=>rfl
 | f+1,L,s=>by
  rw [stP]
  split
  ·rw [stP_len n f,stM_len]
  ·rfl
theorem stab_len (n:Nat) (L:List Nat):(stab key n L).length=L.length:=by rw [stab,stP_len,stI_len]
variable {key}
structure Ib (f g:Nat→Nat) (a b:Nat):Prop where
 fwd:∀ k,a≤k→k<b→∃ j,a≤j∧j<b∧g k=f j
 bwd:∀ k,a≤k→k<b→∃ j,a≤j∧j<b∧f k=g j
theorem Sm.ib {f g:Nat→Nat} {a b:Nat} (h:Sm f g a b):Ib f g a b:=⟨h.fwd,h.bwd⟩
theorem Ib.trans {f g h:Nat→Nat} {a b:Nat} (p:Ib f g a b) (q:Ib g h a b):Ib f h a b where
 fwd k h1 h2:=by
  obtain ⟨j,j1,j2,e⟩:=q.fwd k h1 h2
  obtain ⟨i,i1,i2,e'⟩:=p.fwd j j1 j2
  exact ⟨i,i1,i2,e.trans e'⟩
 bwd k h1 h2:=by
  obtain ⟨j,j1,j2,e⟩:=p.bwd k h1 h2
  obtain ⟨i,i1,i2,e'⟩:=q.bwd j j1 j2
  exact ⟨i,i1,i2,e.trans e'⟩
theorem Ib.join {f g:Nat→Nat} {a m b:Nat} (p:Ib f g a m) (q:Ib f g m b) (h1:a≤m) (h2:m≤b):Ib f g a b where
 fwd k k1 k2:=by
  by_cases c:k<m
  ·obtain ⟨j,j1,j2,e⟩:=p.fwd k k1 c
   exact ⟨j,j1,by omega,e⟩
  ·obtain ⟨j,j1,j2,e⟩:=q.fwd k (by omega) k2
   exact ⟨j,by omega,j2,e⟩
 bwd k k1 k2:=by
  by_cases c:k<m
  ·obtain ⟨j,j1,j2,e⟩:=p.bwd k k1 c
   exact ⟨j,j1,by omega,e⟩
  ·obtain ⟨j,j1,j2,e⟩:=q.bwd k (by omega) k2
   exact ⟨j,by omega,j2,e⟩
theorem Ib.cong {f g h:Nat→Nat} {a b:Nat} (p:Ib f g a b) (e:∀ k,a≤k→k<b→h k=g k):Ib f h a b where
 fwd k k1 k2:=by rw [e k k1 k2];exact p.fwd k k1 k2
 bwd k k1 k2:=by
  obtain ⟨j,j1,j2,e'⟩:=p.bwd k k1 k2
  exact ⟨j,j1,j2,by rw [e j j1 j2];exact e'⟩
def Bkk (key:Nat→Int) (rk:Nat→Nat) (f g:Nat→Nat) (s n a:Nat):Prop:=Srt key rk g a (min (a+s) n)∧Ib f g a (min (a+s) n)
theorem Bkk.cong {f g h:Nat→Nat} {s n a:Nat} (p:Bkk key rk f g s n a) (e:∀ k,a≤k→k<a+s→h k=g k):Bkk key rk f h s n a :=
 ⟨p.1.cong fun k h1 h2=>e k h1 (by omega),p.2.cong fun k h1 h2=>e k h1 (by omega)⟩
theorem dvd_next {s a c:Nat} (h1:s ∣ a) (h2:s ∣ c) (h:c<a):c+s≤a:=by
 have:=Nat.le_of_dvd (by omega) (Nat.dvd_sub h1 h2)
 omega
theorem stI_bk {n:Nat} {f0:Nat→Nat} (hu:∀ k l,k<l→l<n→rk (f0 k)<rk (f0 l)):∀ (f:Nat) (L:List Nat) (a:Nat),n<f+a→a≤n→L.length=n→20 ∣ a→(∀ c,20 ∣ c→c<a→Bkk key rk f0 (gt L) 20 n c)→(∀ k,a≤k→gt L k=f0 k)→∀ c,20 ∣ c→c<n→Bkk key rk f0 (gt (stI key n f L a)) 20 n c
 | 0,L,a,h,h2,_,_,_,_,_,_,_=>by omega
 | f+1,L,a,h,h2,hl,hd,hb,hr,c,c1,c2=>by
  rw [stI]
  by_cases d:a+20≤n
  ·rw [if_pos d]
   obtain ⟨r1,r2⟩:=insS_srt (key:=key) (rk:=rk) (a:=a) (b:=a+20) (L:=L) (by omega) (by omega) (fun k l g1 g2 g3=>by rw [hr k g1,hr l (by omega)];exact hu k l g2 (by omega))
   refine stI_bk hu f _ (a+20) (by omega) d (by rw [insS_len];exact hl) ((Nat.dvd_add_right hd).2 (Nat.dvd_refl _)) (fun e e1 e2=>?_) (fun k hk=>by rw [r2.out k (.inr hk)];exact hr k (by omega)) c c1 c2
   by_cases he:e<a
   ·refine (hb e e1 he).cong fun k g1 g2=>r2.out k (.inl ?_)
    have:=dvd_next hd e1 he
    omega
   ·have:e=a:=by
     by_cases hea:e=a
     ·exact hea
     ·have:=dvd_next e1 hd (by omega)
      omega
    subst this
    have em:min (e+20) n=e+20:=by omega
    refine ⟨by rw [em];exact r1,?_⟩
    rw [em]
    exact Ib.trans ⟨fun k g1 g2=>⟨k,g1,g2,hr k g1⟩,fun k g1 g2=>⟨k,g1,g2,(hr k g1).symm⟩⟩ r2.ib
  ·rw [if_neg d]
   obtain ⟨r1,r2⟩:=insS_srt (key:=key) (rk:=rk) (a:=a) (b:=n) (L:=L) (by omega) (by omega) (fun k l g1 g2 g3=>by rw [hr k g1,hr l (by omega)];exact hu k l g2 (by omega))
   by_cases he:c<a
   ·refine (hb c c1 he).cong fun k g1 g2=>r2.out k (.inl ?_)
    have:=dvd_next hd c1 he
    omega
   ·have:c=a:=by
     by_cases hea:c=a
     ·exact hea
     ·have:=dvd_next c1 hd (by omega)
      omega
    subst this
    have em:min (c+20) n=n:=by omega
    refine ⟨by rw [em];exact r1,?_⟩
    rw [em]
    exact Ib.trans ⟨fun k g1 g2=>⟨k,g1,g2,hr k g1⟩,fun k g1 g2=>⟨k,g1,g2,(hr k g1).symm⟩⟩ r2.ib
theorem bk_merge {n s a b:Nat} {f0:Nat→Nat} (hu:∀ k l,k<l→l<n→rk (f0 k)<rk (f0 l)) {L:List Nat} (hl:L.length=n) (hs:0<s) (h1:Bkk key rk f0 (gt L) s n a) (h2:Bkk key rk f0 (gt L) s n (a+s)) (hb:b=min (a+2*s) n) (hm:a+s<b) :
  Bkk key rk f0 (gt (sym key n L a (a+s) b)) (2*s) n a∧∀ k,(k<a∨b≤k)→gt (sym key n L a (a+s) b) k=gt L k:=by
 have e1:min (a+s) n=a+s:=by omega
 have e2:min (a+s+s) n=b:=by omega
 rw [Bkk,e1] at h1
 rw [Bkk,e2] at h2
 have hp:SymPre (key:=key) (rk:=rk) (gt L) a (a+s) b:=by
  refine ⟨by omega,hm,h1.1,h2.1,fun i j i1 i2 i3 i4 _=>?_⟩
  obtain ⟨i',g1,g2,ei⟩:=h1.2.fwd i i1 i2
  obtain ⟨j',g3,g4,ej⟩:=h2.2.fwd j i3 i4
  rw [ei,ej]
  exact hu _ _ (by omega) (by omega)
 obtain ⟨r1,r2⟩:=sym_srt (key:=key) (rk:=rk) n L a (a+s) b (by omega) (by omega) hp
 refine ⟨⟨by rw [← hb];exact r1,?_⟩,r2.out⟩
 rw [← hb]
 exact (Ib.join h1.2 h2.2 (by omega) (by omega)).trans r2.ib
theorem stM_bk {n s:Nat} {f0:Nat→Nat} (hs:0<s) (hu:∀ k l,k<l→l<n→rk (f0 k)<rk (f0 l)):∀ (f:Nat) (L:List Nat) (a:Nat),n<f+a→a≤n→L.length=n→2*s ∣ a→(∀ c,2*s ∣ c→c<a→Bkk key rk f0 (gt L) (2*s) n c)→(∀ c,s ∣ c→a≤c→c<n→Bkk key rk f0 (gt L) s n c)→∀ c,2*s ∣ c→c<n→Bkk key rk f0 (gt (stM key s n f L a)) (2*s) n c
 | 0,L,a,h,h2,_,_,_,_,_,_,_=>by omega
 | f+1,L,a,h,h2,hl,hd,hb,hr,c,c1,c2=>by
  rw [stM]
  have hsa:s ∣ a:=Nat.dvd_trans (Nat.dvd_mul_left s 2) hd
  have hsa2:s ∣ a+s:=(Nat.dvd_add_right hsa).2 (Nat.dvd_refl _)
  by_cases d:a+2*s≤n
  ·rw [if_pos d]
   obtain ⟨r1,r2⟩:=bk_merge (b:=a+2*s) hu hl hs (hr a hsa (Nat.le_refl _) (by omega)) (hr _ hsa2 (by omega) (by omega)) (by omega) (by omega)
   have hda:2*s ∣ a+2*s:=(Nat.dvd_add_right hd).2 (Nat.dvd_refl _)
   refine stM_bk hs hu f _ (a+2*s) (by omega) d (by rw [sym_len];exact hl) hda (fun e e1 e2=>?_) (fun e e1 e2 e3=>(hr e e1 (by omega) e3).cong fun k g1 g2=>r2 k (.inr (by omega))) c c1 c2
   by_cases he:e<a
   ·refine (hb e e1 he).cong fun k g1 g2=>r2 k (.inl ?_)
    have:=dvd_next hd e1 he
    omega
   ·have:e=a:=by
     by_cases hea:e=a
     ·exact hea
     ·have:=dvd_next e1 hd (by omega)
      omega
    subst this
    exact r1
  ·rw [if_neg d]
   have hca:¬ c<a→c=a:=fun he=>by
    by_cases hea:c=a
    ·exact hea
    ·have:=dvd_next c1 hd (by omega)
     omega
   by_cases d2:a+s<n
   ·rw [if_pos d2]
    obtain ⟨r1,r2⟩:=bk_merge (b:=n) hu hl hs (hr a hsa (Nat.le_refl _) (by omega)) (hr _ hsa2 (by omega) (by omega)) (by omega) (by omega)
    by_cases he:c<a
    ·refine (hb c c1 he).cong fun k g1 g2=>r2 k (.inl ?_)
     have:=dvd_next hd c1 he
     omega
    ·obtain rfl:=hca he
     exact r1
   ·rw [if_neg d2]
    by_cases he:c<a
    ·exact hb c c1 he
    ·obtain rfl:=hca he
     have:=hr c hsa (Nat.le_refl _) c2
     have e1:min (c+s) n=n:=by omega
     have e2:min (c+2*s) n=n:=by omega
     rw [Bkk,e1] at this
     rw [Bkk,e2]
     exact this
theorem stP_bk {n:Nat} {f0:Nat→Nat} (hu:∀ k l,k<l→l<n→rk (f0 k)<rk (f0 l)):∀ (f:Nat) (L:List Nat) (s:Nat),0<s→n<f+s→L.length=n→(∀ c,s ∣ c→c<n→Bkk key rk f0 (gt L) s n c)→Srt key rk (gt (stP key n f L s)) 0 n∧Ib f0 (gt (stP key n f L s)) 0 n
 | 0,L,s,h1,h2,hl,hb=>by
  by_cases hn:n=0
  ·subst hn
   exact ⟨fun i j h1 h2 h3=>by omega,⟨fun k h1 h2=>by omega,fun k h1 h2=>by omega⟩⟩
  ·have:=hb 0 (Nat.dvd_zero _) (by omega)
   rw [Bkk,show min (0+s) n=n by omega] at this
   exact this
 | f+1,L,s,h1,h2,hl,hb=>by
  rw [stP]
  by_cases c:s<n
  ·rw [if_pos c]
   exact stP_bk hu f _ (2*s) (by omega) (by omega) (by rw [stM_len];exact hl) (stM_bk h1 hu (n+1) L 0 (by omega) (by omega) hl (Nat.dvd_zero _) (fun c _ h=>by omega) (fun c h1 _ h3=>hb c h1 h3))
  ·rw [if_neg c]
   by_cases hn:n=0
   ·subst hn
    exact ⟨fun i j h1 h2 h3=>by omega,⟨fun k h1 h2=>by omega,fun k h1 h2=>by omega⟩⟩
   ·have:=hb 0 (Nat.dvd_zero _) (by omega)
    rw [Bkk,show min (0+s) n=n by omega] at this
    exact this
theorem stab_srt {n:Nat} {L:List Nat} (hl:L.length=n) (hu:∀ k l,k<l→l<n→rk (gt L k)<rk (gt L l)):Srt key rk (gt (stab key n L)) 0 n∧Ib (gt L) (gt (stab key n L)) 0 n :=
 stP_bk hu (n+1) _ 20 (by omega) (by omega) (by rw [stI_len];exact hl) (stI_bk hu (n+1) L 0 (by omega) (by omega) hl (Nat.dvd_zero _) (fun c _ h=>by omega) (fun _ _=>rfl))
end
end Go.Ab
namespace Go.Ab
open Go.Proofs
set_option linter.unusedSimpArgs false
set_option linter.unusedVariables false
set_option maxRecDepth 100000
variable {H:Heap}
theorem swR_loop {p:Nat} (hp:p<H.length) (a b c:Nat) (n:Nat) (hn:n≤100000) (hab:a+c≤n∧b+c≤n) (R0:List Nat) :
  ∀ (q j:Nat),j+q=c→∀ (L:List Nat),L.length=n→swR a b L j q=R0→∀ E:Env,E.get 0=.gsl p n→E.get 1=I a→E.get 2=I b→E.get 3=I c→E.get 10=I j →
  Option.map (zAd H.length) (zAe cfg0 zA2 ⟨105,none,false,H.length⟩ (zA5 Tryz.f105 1) ⟨E,[],GH H p L,none⟩)=some ⟨.ret (.tup []),GH H p R0,none⟩:=by
 intro q
 skip
 induction q with
 | zero =>
  intro j hj L hL hr E g0 g1 g2 g3 g10
  have hk':¬ (j:Int)<((c:Nat):Int):=by omega
  simp only [swR] at hr
  subst hr
  simp only [zA6,zA4,zA5,zA7,zA3,↓reduceIte,Option.some.injEq,Nat.reduceEqDiff,reduceCtorEq,Tryz.f105]
  rw [zA0]
  simp -implicitDefEqProofs (maxSteps:=1000000) (disch:=first|rfl|omega|assumption) only [go_sem,g0,g1,g2,g3,g10,ltT,ltF,leT,hk']
 | succ q ih =>
  intro j hj L hL hr E g0 g1 g2 g3 g10
  have hk':(j:Int)<((c:Nat):Int):=by omega
  have hk2:j<c:=by omega
  simp only [swR] at hr
  have f1:=@GH_idx H p n hp
  have f2:=@GH_load H p n hp
  have f3:=@GH_store H p n H.length hp
  have e1:(a:Int)+j=((a+j:Nat):Int):=rfl
  have e2:(b:Int)+j=((b+j:Nat):Int):=rfl
  have hL2:(L.set (a+j) (L.getD (b+j) 0)).length=n:=by rw [List.length_set];exact hL
  simp only [zA6,zA4,zA5,zA7,zA3,↓reduceIte,Option.some.injEq,Nat.reduceEqDiff,reduceCtorEq,Tryz.f105]
  rw [zA0]
  simp -implicitDefEqProofs (maxSteps:=1000000) (disch:=first|rfl|omega|assumption) only [go_sem,g0,g1,g2,g3,g10,ltT,ltF,leT,hk']
  rw [zAa];rotate_left;kernel_rfl
  simp -implicitDefEqProofs (maxSteps:=1000000) (disch:=first|rfl|omega|assumption) only [go_sem,g0,g1,g2,g3,g10,ltT,ltF,leT,hk',f1,f2,f3,e1,e2]
  exact ih (j+1) (by omega) (swp L (a+j) (b+j)) (by rw [swp_len];exact hL) hr _ (by exact g0) (by exact g1) (by exact g2) (by exact g3) (by rfl)
theorem so_swR {fn:Fn} {cap:List AV} {p:Nat} (hp:p<H.length) {a b c n:Nat} (hn:n≤100000) (hab:a+c≤n∧b+c≤n) {L:List Nat} (hL:L.length=n) :
  zA9 cfg0 zA2 false 105 [.gsl p n,I a,I b,I c,.func fn [] cap] (GH H p L) none=some ⟨.ret (.tup []),GH H p (swR a b L 0 c),none⟩:=by
 have hlen:(GH H p L).length=H.length:=by simp [GH]
 have h1:=swR_loop hp a b c n hn hab (swR a b L 0 c) c 0 (by omega) L hL rfl
 refine (zA1 fn105 rfl (by simp [Tryz.f105])).trans ?_
 simp -implicitDefEqProofs (maxSteps:=1000000) (disch:=first|rfl|omega|assumption) only [go_sem,ltT,ltF,leT,hlen]
 exact h1 _ (by rfl) (by rfl) (by rfl) (by rfl) (by rfl)
theorem rot_loop {fn:Fn} {cap:List AV} {p:Nat} (hp:p<H.length) (m:Nat) (n:Nat) (hn:n≤100000) (N:Nat) (R0:List Nat) :
  ∀ (q j:Nat),j+q=N→∀ (L:List Nat),∀ (x y:Nat),L.length=n→0<x→0<y→x≤m→m+y≤n→x+y≤q→rot m q L x y=R0→∀ E:Env,E.get 0=.gsl p n→E.get 2=I m→E.get 4=.func fn [] cap→E.get 10=I x→E.get 11=I y →
  Option.map (zAd H.length) (zAe cfg0 zA2 ⟨103,none,false,H.length⟩ (zA5 Tryz.f103 2) ⟨E,[],GH H p L,none⟩)=some ⟨.ret (.tup []),GH H p R0,none⟩:=by
 intro q
 skip
 induction q with
 | zero =>
  intro j hj L x y hL hx hy hxm hym hq hr E g0 g2 g4 g10 g11
  have hk':¬ (j:Int)<((N:Nat):Int):=by omega
  simp only [zA6,zA4,zA5,zA7,zA3,↓reduceIte,Option.some.injEq,Nat.reduceEqDiff,reduceCtorEq,Tryz.f103]
  rw [zA0]
  exfalso
  omega
 | succ q ih =>
  intro j hj L x y hL hx hy hxm hym hq hr E g0 g2 g4 g10 g11
  have hk':(j:Int)<((N:Nat):Int):=by omega
  have hk2:j<N:=by omega
  rw [rot] at hr
  have e1:(m:Int)-x=((m-x:Nat):Int):=by omega
  have e2:(m:Int)+y-x=((m+y-x:Nat):Int):=by omega
  by_cases c:x=y
  ·subst c
   rw [if_pos rfl] at hr
   subst hr
   have h1:=@so_swR H fn cap p hp (m-x) m x n hn (by omega) L hL
   have z:((x:Int) != x)=false:=by simp
   simp only [zA6,zA4,zA5,zA7,zA3,↓reduceIte,Option.some.injEq,Nat.reduceEqDiff,reduceCtorEq,Tryz.f103]
   rw [zA0]
   simp -implicitDefEqProofs (maxSteps:=1000000) (disch:=first|rfl|omega|assumption) only [go_sem,g0,g2,g4,g10,g11,ltT,ltF,leT,hk',z,e1,h1]
   done
  ·rw [if_neg c] at hr
   have z:((x:Int) != y)=true:=by simp;omega
   by_cases d:y<x
   ·rw [if_pos d] at hr
    have h1:=@so_swR H fn cap p hp (m-x) m y n hn (by omega) L hL
    have e3:(x:Int)-y=((x-y:Nat):Int):=by omega
    simp only [zA6,zA4,zA5,zA7,zA3,↓reduceIte,Option.some.injEq,Nat.reduceEqDiff,reduceCtorEq,Tryz.f103]
    rw [zA0]
    simp -implicitDefEqProofs (maxSteps:=1000000) (disch:=first|rfl|omega|assumption) only [go_sem,g0,g2,g4,g10,g11,ltT,ltF,leT,hk',z,e1,h1,e3]
    exact ih (j+1) (by omega) _ (x-y) y (by rw [swR_len];exact hL) (by omega) hy (by omega) hym (by omega) hr _ (by exact g0) (by exact g2) (by exact g4) (by rfl) (by exact g11)
   ·rw [if_neg d] at hr
    have h1:=@so_swR H fn cap p hp (m-x) (m+y-x) x n hn (by omega) L hL
    have e3:(y:Int)-x=((y-x:Nat):Int):=by omega
    simp only [zA6,zA4,zA5,zA7,zA3,↓reduceIte,Option.some.injEq,Nat.reduceEqDiff,reduceCtorEq,Tryz.f103]
    rw [zA0]
    simp -implicitDefEqProofs (maxSteps:=1000000) (disch:=first|rfl|omega|assumption) only [go_sem,g0,g2,g4,g10,g11,ltT,ltF,leT,hk',z,e1,e2,h1,e3]
    exact ih (j+1) (by omega) _ x (y-x) (by rw [swR_len];exact hL) hx (by omega) hxm (by omega) (by omega) hr _ (by exact g0) (by exact g2) (by exact g4) (by exact g10) (by rfl)
theorem so_rot {fn:Fn} {cap:List AV} {p:Nat} (hp:p<H.length) {a m b n:Nat} (hn:n≤100000) (h1:a<m) (h2:m<b) (h3:b≤n) {L:List Nat} (hL:L.length=n) :
  zA9 cfg0 zA2 false 103 [.gsl p n,I a,I m,I b,.func fn [] cap] (GH H p L) none=some ⟨.ret (.tup []),GH H p (rot m (b-a) L (m-a) (b-m)),none⟩:=by
 have hlen:(GH H p L).length=H.length:=by simp [GH]
 have e1:(m:Int)-a=((m-a:Nat):Int):=by omega
 have e2:(b:Int)-m=((b-m:Nat):Int):=by omega
 have h:=@rot_loop H fn cap p hp m n hn (b-a) _ (b-a) 0 (by omega) L (m-a) (b-m) hL (by omega) (by omega) (by omega) (by omega) (by omega) rfl
 refine (zA1 fn103 rfl (by simp [Tryz.f103])).trans ?_
 simp -implicitDefEqProofs (maxSteps:=1000000) (disch:=first|rfl|omega|assumption) only [go_sem,ltT,ltF,leT,hlen,e1,e2]
 exact h _ (by rfl) (by rfl) (by rfl) (by rfl) (by rfl)
theorem bs_bd (P:Nat→Bool):∀ (f i j:Nat),i≤j→i≤bsr P f i j∧bsr P f i j≤j
 | 0,i,j,h=>⟨Nat.le_refl _,h⟩
 | f+1,i,j,h=>by
  rw [bsr]
  split
  ·split
   ·have:=bs_bd P f ((i+j)/2+1) j (by omega)
    omega
   ·have:=bs_bd P f i ((i+j)/2) (by omega)
    omega
  ·exact ⟨Nat.le_refl _,h⟩
theorem small_swR {B:Nat} (a b:Nat):∀ (q i:Nat) (L:List Nat),a+i+q≤L.length→b+i+q≤L.length→Small B L→Small B (swR a b L i q)
 | 0,_,_,_,_,h=>h
 | q+1,i,L,h1,h2,h=>by
  rw [swR]
  exact small_swR a b q (i+1) _ (by rw [swp_len];omega) (by rw [swp_len];omega) (swp_mem h (by omega) (by omega))
theorem small_rot {B:Nat} (m:Nat):∀ (f:Nat) (L:List Nat) (i j:Nat),i≤m→m+j≤L.length→Small B L→Small B (rot m f L i j)
 | 0,_,_,_,_,_,h=>h
 | f+1,L,i,j,h1,h2,h=>by
  rw [rot]
  split
  ·exact small_swR _ _ _ _ _ (by omega) (by omega) h
  ·split
   ·exact small_rot m f _ _ _ (by omega) (by rw [swR_len];omega) (small_swR _ _ _ _ _ (by omega) (by omega) h)
   ·exact small_rot m f _ _ _ (by omega) (by rw [swR_len];omega) (small_swR _ _ _ _ _ (by omega) (by omega) h)
theorem small_upS {B:Nat}:∀ (q k:Nat) (L:List Nat),k+q<L.length→Small B L→Small B (upS L k q)
 | 0,_,_,_,h=>h
 | q+1,k,L,h1,h=>by
  rw [upS]
  exact small_upS q (k+1) _ (by rw [swp_len];omega) (swp_mem h (by omega) (by omega))
theorem small_dnS {B:Nat}:∀ (q k:Nat) (L:List Nat),k+q<L.length→Small B L→Small B (dnS L k q)
 | 0,_,_,_,h=>h
 | q+1,k,L,h1,h=>by
  rw [dnS]
  exact small_dnS q k _ (by rw [swp_len];omega) (swp_mem h (by omega) (by omega))
theorem symS_bd (key:Nat→Int) (L:List Nat) {a m b:Nat} (h1:a<m) (h2:m<b):a≤symS key L a m b∧symS key L a m b≤m∧symS key L a m b≤(a+b)/2∧m≤(a+b)/2+m-symS key L a m b∧(a+b)/2+m-symS key L a m b≤b:=by
 simp only [symS]
 have:=bs_bd (fun c=>!decide (key (gt L ((a+b)/2+m-1-c))-key (gt L c)<0)) ((if (a+b)/2<m then (a+b)/2 else m)-(if (a+b)/2<m then (a+b)/2+m-b else a)+1) (if (a+b)/2<m then (a+b)/2+m-b else a) (if (a+b)/2<m then (a+b)/2 else m) (by split<;>omega)
 generalize bsr _ _ _ _=t at this ⊢
 split at this<;>omega
theorem small_sym {B:Nat} (key:Nat→Int):∀ (f:Nat) (L:List Nat) (a m b:Nat),a<m→m<b→b≤L.length→Small B L→Small B (sym key f L a m b)
 | 0,_,_,_,_,_,_,_,h=>h
 | f+1,L,a,m,b,h1,h2,h3,h=>by
  rw [sym]
  split
  ·rw [symA]
   have:=bs_bd (fun h=>decide (key (gt L h)-key (gt L a)<0)) (b-m+1) m b (by omega)
   exact small_upS _ _ _ (by omega) h
  ·split
   ·rw [symB]
    have:=bs_bd (fun h=>!decide (key (gt L m)-key (gt L h)<0)) (m-a+1) a m (by omega)
    exact small_dnS _ _ _ (by omega) h
   ·obtain ⟨s1,s2,s3,s4,s5⟩:=symS_bd key L h1 h2
    dsimp only
    generalize symS key L a m b=s at *
    generalize (a+b)/2=mid at *
    have g1:Small B (if s<m∧m<mid+m-s then rot m (mid+m-s-s) L (m-s) (mid+m-s-m) else L):=by
     split
     ·exact small_rot _ _ _ _ _ (by omega) (by omega) h
     ·exact h
    have l1:(if s<m∧m<mid+m-s then rot m (mid+m-s-s) L (m-s) (mid+m-s-m) else L).length=L.length:=by
     split
     ·rw [rot_len]
     ·rfl
    generalize (if s<m∧m<mid+m-s then rot m (mid+m-s-s) L (m-s) (mid+m-s-m) else L)=L1 at *
    have g2:Small B (if a<s∧s<mid then sym key f L1 a s mid else L1):=by
     split
     ·exact small_sym key f _ _ _ _ (by omega) (by omega) (by omega) g1
     ·exact g1
    have l2:(if a<s∧s<mid then sym key f L1 a s mid else L1).length=L.length:=by
     split
     ·rw [sym_len,l1]
     ·exact l1
    generalize (if a<s∧s<mid then sym key f L1 a s mid else L1)=L2 at *
    split
    ·exact small_sym key f _ _ _ _ (by omega) (by omega) (by omega) g2
    ·exact g2
theorem half (x y:Nat):((x:Int)+y).fdiv (2^min 1 64)=(((x+y)/2:Nat):Int):=fdivN (x+y) 2
theorem halfw {x y:Nat} (h:x+y≤1000000):IntKind.u64.wrap ((x:Int)+y)=(x:Int)+y:=wrapU (n:=x+y) (by omega)
theorem bsA_loop {fn:Fn} {cap:List AV} {key:Nat→Int} {B:Nat} (hc:Cmp fn cap key B) {p:Nat} (hp:p<H.length) (a m b n:Nat) (hn:n≤100000) (han:a<n) (L:List Nat) (hL:L.length=n) (hB:Small B L) (N R0:Nat) (K:List Item) (R:Option Done) (hK:∀ E:Env,E.get 0=.gsl p n→E.get 1=I a→E.get 2=I m→E.get 3=I b→E.get 4=.func fn [] cap→E.get 10=I R0→Option.map (zAd H.length) (zAe cfg0 zA2 ⟨97,none,false,H.length⟩ K ⟨E,[],GH H p L,none⟩)=R)  :
  ∀ (q j:Nat),j+q=N→∀ (x y:Nat),y≤n→x≤y→y-x<q→bsr (fun h=>decide (key (gt L h)-key (gt L a)<0)) q x y=R0→∀ E:Env,E.get 0=.gsl p n→E.get 1=I a→E.get 2=I m→E.get 3=I b→E.get 4=.func fn [] cap→E.get 10=I x→E.get 11=I y →
  Option.map (zAd H.length) (zAe cfg0 zA2 ⟨97,none,false,H.length⟩ (zA6 Tryz.f97 3::.inBlock 0::K) ⟨E,[],GH H p L,none⟩)=R:=by
 intro q
 have f1:=@GH_idx H p n hp
 have f2:=@GH_load H p n hp
 have x1:=hB a (by omega)
 induction q with
 | zero =>
  intro j hj x y hyb hxy hq hr E g0 g1 g2 g3 g4 g10 g11
  have hk':¬ (j:Int)<((N:Nat):Int):=by omega
  simp only [zA6,zA4,zA5,zA7,zA3,↓reduceIte,Option.some.injEq,Nat.reduceEqDiff,reduceCtorEq,Tryz.f97]
  rw [zA0]
  exfalso
  omega
 | succ q ih =>
  intro j hj x y hyb hxy hq hr E g0 g1 g2 g3 g4 g10 g11
  have hk':(j:Int)<((N:Nat):Int):=by omega
  have hk2:j<N:=by omega
  rw [bsr] at hr
  by_cases c:x<y
  ·rw [if_pos c] at hr
   obtain ⟨h,hh⟩:∃ h,(x+y)/2=h:=⟨_,rfl⟩
   have e1:=half x y
   have e2:=halfw (x:=x) (y:=y) (by omega)
   rw [hh] at hr e1
   have e3:IntKind.i64.wrap (h:Int)=h:=w64 (by omega) (by omega)
   have x2:=hB h (by omega)
   have hcc:=fun (b0:Nat) G=>hc.call b0 _ _ G x2 x1
   have k1:=hc.bd (L.getD a 0)
   have k2:=hc.bd (L.getD h 0)
   have c':(x:Int)<y:=by omega
   by_cases d:key (L.getD h 0)-key (L.getD a 0)<0
   ·have d':decide (key (gt L h)-key (gt L a)<0)=true:=by simpa [gt] using d
    rw [if_pos d'] at hr
    simp only [zA6,zA4,zA5,zA7,zA3,↓reduceIte,Option.some.injEq,Nat.reduceEqDiff,reduceCtorEq,Tryz.f97]
    rw [zA0]
    simp -implicitDefEqProofs (maxSteps:=1000000) (disch:=first|rfl|omega|assumption) only [go_sem,g0,g1,g2,g3,g4,g10,g11,ltT,ltF,leT,hk',c',e1,e2,e3]
    rw [zAa];rotate_left;kernel_rfl
    simp -implicitDefEqProofs (maxSteps:=1000000) (disch:=first|rfl|omega|assumption) only [go_sem,g0,g1,g2,g3,g4,g10,g11,ltT,ltF,leT,hk',f1,f2,hcc,d]
    exact ih (j+1) (by omega) (h+1) y hyb (by omega) (by omega) hr _ (by exact g0) (by exact g1) (by exact g2) (by exact g3) (by exact g4) (by rfl) (by exact g11)
   ·have d':¬ decide (key (gt L h)-key (gt L a)<0)=true:=by simpa [gt] using d
    rw [if_neg d'] at hr
    simp only [zA6,zA4,zA5,zA7,zA3,↓reduceIte,Option.some.injEq,Nat.reduceEqDiff,reduceCtorEq,Tryz.f97]
    rw [zA0]
    simp -implicitDefEqProofs (maxSteps:=1000000) (disch:=first|rfl|omega|assumption) only [go_sem,g0,g1,g2,g3,g4,g10,g11,ltT,ltF,leT,hk',c',e1,e2,e3]
    rw [zAa];rotate_left;kernel_rfl
    simp -implicitDefEqProofs (maxSteps:=1000000) (disch:=first|rfl|omega|assumption) only [go_sem,g0,g1,g2,g3,g4,g10,g11,ltT,ltF,leT,hk',f1,f2,hcc,d]
    exact ih (j+1) (by omega) x h (by omega) (by omega) (by omega) hr _ (by exact g0) (by exact g1) (by exact g2) (by exact g3) (by exact g4) (by exact g10) (by rfl)
  ·rw [if_neg c] at hr
   subst hr
   have c':¬ (x:Int)<y:=by omega
   simp only [zA6,zA4,zA5,zA7,zA3,↓reduceIte,Option.some.injEq,Nat.reduceEqDiff,reduceCtorEq,Tryz.f97]
   rw [zA0]
   simp -implicitDefEqProofs (maxSteps:=1000000) (disch:=first|rfl|omega|assumption) only [go_sem,g0,g1,g2,g3,g4,g10,g11,ltT,ltF,leT,hk',c']
   exact hK _ (by exact g0) (by exact g1) (by exact g2) (by exact g3) (by exact g4) (by exact g10)
theorem up_loop {p:Nat} (hp:p<H.length) (a i n:Nat) (hn:n≤100000) (hai:a<i∧i≤n) (R0:List Nat) :
  ∀ (q j:Nat),j+q=i-1-a→∀ (L:List Nat),L.length=n→upS L (a+j) q=R0→∀ E:Env,E.get 0=.gsl p n→E.get 10=I i→E.get 13=I ((a+j:Nat):Int) →
  Option.map (zAd H.length) (zAe cfg0 zA2 ⟨97,none,false,H.length⟩ (zA5 Tryz.f97 9) ⟨E,[],GH H p L,none⟩)=some ⟨.ret (.tup []),GH H p R0,none⟩:=by
 intro q
 skip
 induction q with
 | zero =>
  intro j hj L hL hr E g0 g10 g13
  have hk':¬ (j:Int)<((i-1-a:Nat):Int):=by omega
  simp only [upS] at hr
  subst hr
  simp only [zA6,zA4,zA5,zA7,zA3,↓reduceIte,Option.some.injEq,Nat.reduceEqDiff,reduceCtorEq,Tryz.f97]
  rw [zA0]
  have c':¬ ((a+j:Nat):Int)<(i:Int)-1:=by omega
  simp -implicitDefEqProofs (maxSteps:=1000000) (disch:=first|rfl|omega|assumption) only [go_sem,g0,g10,g13,ltT,ltF,leT,hk',c']
 | succ q ih =>
  intro j hj L hL hr E g0 g10 g13
  have hk':(j:Int)<((i-1-a:Nat):Int):=by omega
  have hk2:j<i-1-a:=by omega
  simp only [upS] at hr
  have f1:=@GH_idx H p n hp
  have f2:=@GH_load H p n hp
  have f3:=@GH_store H p n H.length hp
  have c':((a+j:Nat):Int)<(i:Int)-1:=by omega
  have e1:((a+j:Nat):Int)+1=((a+j+1:Nat):Int):=rfl
  have hL2:(L.set (a+j) (L.getD (a+j+1) 0)).length=n:=by rw [List.length_set];exact hL
  simp only [zA6,zA4,zA5,zA7,zA3,↓reduceIte,Option.some.injEq,Nat.reduceEqDiff,reduceCtorEq,Tryz.f97]
  rw [zA0]
  simp -implicitDefEqProofs (maxSteps:=1000000) (disch:=first|rfl|omega|assumption) only [go_sem,g0,g10,g13,ltT,ltF,leT,hk',c']
  rw [zAa];rotate_left;kernel_rfl
  simp -implicitDefEqProofs (maxSteps:=1000000) (disch:=first|rfl|omega|assumption) only [go_sem,g0,g10,g13,ltT,ltF,leT,hk',f1,f2,f3,e1]
  exact ih (j+1) (by omega) (swp L (a+j) (a+j+1)) (by rw [swp_len];exact hL) hr _ (by exact g0) (by exact g10) (by rfl)
theorem bsB_loop {fn:Fn} {cap:List AV} {key:Nat→Int} {B:Nat} (hc:Cmp fn cap key B) {p:Nat} (hp:p<H.length) (a m b n:Nat) (hn:n≤100000) (han:m<n) (L:List Nat) (hL:L.length=n) (hB:Small B L) (N R0:Nat) (K:List Item) (R:Option Done) (hK:∀ E:Env,E.get 0=.gsl p n→E.get 1=I a→E.get 2=I m→E.get 3=I b→E.get 4=.func fn [] cap→E.get 14=I R0→Option.map (zAd H.length) (zAe cfg0 zA2 ⟨97,none,false,H.length⟩ K ⟨E,[],GH H p L,none⟩)=R)  :
  ∀ (q j:Nat),j+q=N→∀ (x y:Nat),y≤n→x≤y→y-x<q→bsr (fun h=>!decide (key (gt L m)-key (gt L h)<0)) q x y=R0→∀ E:Env,E.get 0=.gsl p n→E.get 1=I a→E.get 2=I m→E.get 3=I b→E.get 4=.func fn [] cap→E.get 14=I x→E.get 15=I y →
  Option.map (zAd H.length) (zAe cfg0 zA2 ⟨97,none,false,H.length⟩ (zA6 Tryz.f97 15::.inBlock 4::K) ⟨E,[],GH H p L,none⟩)=R:=by
 intro q
 have f1:=@GH_idx H p n hp
 have f2:=@GH_load H p n hp
 have x1:=hB m (by omega)
 induction q with
 | zero =>
  intro j hj x y hyb hxy hq hr E g0 g1 g2 g3 g4 g14 g15
  have hk':¬ (j:Int)<((N:Nat):Int):=by omega
  simp only [zA6,zA4,zA5,zA7,zA3,↓reduceIte,Option.some.injEq,Nat.reduceEqDiff,reduceCtorEq,Tryz.f97]
  rw [zA0]
  exfalso
  omega
 | succ q ih =>
  intro j hj x y hyb hxy hq hr E g0 g1 g2 g3 g4 g14 g15
  have hk':(j:Int)<((N:Nat):Int):=by omega
  have hk2:j<N:=by omega
  rw [bsr] at hr
  by_cases c:x<y
  ·rw [if_pos c] at hr
   obtain ⟨h,hh⟩:∃ h,(x+y)/2=h:=⟨_,rfl⟩
   have e1:=half x y
   have e2:=halfw (x:=x) (y:=y) (by omega)
   rw [hh] at hr e1
   have e3:IntKind.i64.wrap (h:Int)=h:=w64 (by omega) (by omega)
   have x2:=hB h (by omega)
   have hcc:=fun (b0:Nat) G=>hc.call b0 _ _ G x1 x2
   have k1:=hc.bd (L.getD m 0)
   have k2:=hc.bd (L.getD h 0)
   have c':(x:Int)<y:=by omega
   by_cases d:key (L.getD m 0)-key (L.getD h 0)<0
   ·have d':¬ (!decide (key (gt L m)-key (gt L h)<0))=true:=by
     simp only [Bool.not_eq_true',decide_eq_false_iff_not,Decidable.not_not]
     exact d
    rw [if_neg d'] at hr
    simp only [zA6,zA4,zA5,zA7,zA3,↓reduceIte,Option.some.injEq,Nat.reduceEqDiff,reduceCtorEq,Tryz.f97]
    rw [zA0]
    simp -implicitDefEqProofs (maxSteps:=1000000) (disch:=first|rfl|omega|assumption) only [go_sem,g0,g1,g2,g3,g4,g14,g15,ltT,ltF,leT,hk',c',e1,e2,e3]
    rw [zAa];rotate_left;kernel_rfl
    simp -implicitDefEqProofs (maxSteps:=1000000) (disch:=first|rfl|omega|assumption) only [go_sem,g0,g1,g2,g3,g4,g14,g15,ltT,ltF,leT,hk',f1,f2,hcc,d]
    exact ih (j+1) (by omega) x h (by omega) (by omega) (by omega) hr _ (by exact g0) (by exact g1) (by exact g2) (by exact g3) (by exact g4) (by exact g14) (by rfl)
   ·have d':(!decide (key (gt L m)-key (gt L h)<0))=true:=by
     simp only [Bool.not_eq_true',decide_eq_false_iff_not]
     exact d
    rw [if_pos d'] at hr
    simp only [zA6,zA4,zA5,zA7,zA3,↓reduceIte,Option.some.injEq,Nat.reduceEqDiff,reduceCtorEq,Tryz.f97]
    rw [zA0]
    simp -implicitDefEqProofs (maxSteps:=1000000) (disch:=first|rfl|omega|assumption) only [go_sem,g0,g1,g2,g3,g4,g14,g15,ltT,ltF,leT,hk',c',e1,e2,e3]
    rw [zAa];rotate_left;kernel_rfl
    simp -implicitDefEqProofs (maxSteps:=1000000) (disch:=first|rfl|omega|assumption) only [go_sem,g0,g1,g2,g3,g4,g14,g15,ltT,ltF,leT,hk',f1,f2,hcc,d]
    exact ih (j+1) (by omega) (h+1) y hyb (by omega) (by omega) hr _ (by exact g0) (by exact g1) (by exact g2) (by exact g3) (by exact g4) (by rfl) (by exact g15)
  ·rw [if_neg c] at hr
   subst hr
   have c':¬ (x:Int)<y:=by omega
   simp only [zA6,zA4,zA5,zA7,zA3,↓reduceIte,Option.some.injEq,Nat.reduceEqDiff,reduceCtorEq,Tryz.f97]
   rw [zA0]
   simp -implicitDefEqProofs (maxSteps:=1000000) (disch:=first|rfl|omega|assumption) only [go_sem,g0,g1,g2,g3,g4,g14,g15,ltT,ltF,leT,hk',c']
   exact hK _ (by exact g0) (by exact g1) (by exact g2) (by exact g3) (by exact g4) (by exact g14)
theorem dn_loop {p:Nat} (hp:p<H.length) (i m n:Nat) (hn:n≤100000) (hai:i≤m∧m<n) (R0:List Nat) :
  ∀ (q j:Nat),j+q=m-i→∀ (L:List Nat),L.length=n→dnS L i q=R0→∀ E:Env,E.get 0=.gsl p n→E.get 14=I i→E.get 17=I ((i+q:Nat):Int) →
  Option.map (zAd H.length) (zAe cfg0 zA2 ⟨97,none,false,H.length⟩ (zA5 Tryz.f97 21) ⟨E,[],GH H p L,none⟩)=some ⟨.ret (.tup []),GH H p R0,none⟩:=by
 intro q
 skip
 induction q with
 | zero =>
  intro j hj L hL hr E g0 g14 g17
  have hk':¬ (j:Int)<((m-i:Nat):Int):=by omega
  simp only [dnS] at hr
  subst hr
  simp only [zA6,zA4,zA5,zA7,zA3,↓reduceIte,Option.some.injEq,Nat.reduceEqDiff,reduceCtorEq,Tryz.f97]
  rw [zA0]
  have c':¬ (i:Int)<((i+0:Nat):Int):=by omega
  simp -implicitDefEqProofs (maxSteps:=1000000) (disch:=first|rfl|omega|assumption) only [go_sem,g0,g14,g17,ltT,ltF,leT,hk',c']
 | succ q ih =>
  intro j hj L hL hr E g0 g14 g17
  have hk':(j:Int)<((m-i:Nat):Int):=by omega
  have hk2:j<m-i:=by omega
  simp only [dnS] at hr
  have f1:=@GH_idx H p n hp
  have f2:=@GH_load H p n hp
  have f3:=@GH_store H p n H.length hp
  have c':(i:Int)<((i+(q+1):Nat):Int):=by omega
  have e1:((i+(q+1):Nat):Int)-1=((i+q:Nat):Int):=by omega
  have hL2:(L.set (i+(q+1)) (L.getD (i+q) 0)).length=n:=by rw [List.length_set];exact hL
  simp only [zA6,zA4,zA5,zA7,zA3,↓reduceIte,Option.some.injEq,Nat.reduceEqDiff,reduceCtorEq,Tryz.f97]
  rw [zA0]
  simp -implicitDefEqProofs (maxSteps:=1000000) (disch:=first|rfl|omega|assumption) only [go_sem,g0,g14,g17,ltT,ltF,leT,hk',c']
  rw [zAa];rotate_left;kernel_rfl
  simp -implicitDefEqProofs (maxSteps:=1000000) (disch:=first|rfl|omega|assumption) only [go_sem,g0,g14,g17,ltT,ltF,leT,hk',f1,f2,f3,e1]
  exact ih (j+1) (by omega) (swp L (i+q+1) (i+q)) (by rw [swp_len];exact hL) hr _ (by exact g0) (by exact g14) (by rfl)
theorem bsC_loop {fn:Fn} {cap:List AV} {key:Nat→Int} {B:Nat} (hc:Cmp fn cap key B) {p:Nat} (hp:p<H.length) (a m b n w pp mid:Nat) (hn:n≤100000) (hw:w≤1000000) (L:List Nat) (hL:L.length=n) (hB:Small B L) (N R0:Nat) (K:List Item) (R:Option Done) (hK:∀ E:Env,E.get 0=.gsl p n→E.get 1=I a→E.get 2=I m→E.get 3=I b→E.get 4=.func fn [] cap→E.get 18=I mid→E.get 19=I w→E.get 20=I R0→Option.map (zAd H.length) (zAe cfg0 zA2 ⟨97,none,false,H.length⟩ K ⟨E,[],GH H p L,none⟩)=R)  :
  ∀ (q j:Nat),j+q=N→∀ (x y:Nat),y≤pp+1→y≤n→(x<y→pp-x<n)→x≤y→y-x<q→bsr (fun c=>!decide (key (gt L (pp-c))-key (gt L c)<0)) q x y=R0→∀ E:Env,E.get 0=.gsl p n→E.get 1=I a→E.get 2=I m→E.get 3=I b→E.get 4=.func fn [] cap→E.get 18=I mid→E.get 19=I w→E.get 20=I x→E.get 21=I y→E.get 22=I pp →
  Option.map (zAd H.length) (zAe cfg0 zA2 ⟨97,none,false,H.length⟩ (zA6 Tryz.f97 33::.inBlock 8::K) ⟨E,[],GH H p L,none⟩)=R:=by
 intro q
 have f1:=@GH_idx H p n hp
 have f2:=@GH_load H p n hp
 induction q with
 | zero =>
  intro j hj x y hyb hyb2 hpx hxy hq hr E g0 g1 g2 g3 g4 g18 g19 g20 g21 g22
  have hk':¬ (j:Int)<((N:Nat):Int):=by omega
  simp only [zA6,zA4,zA5,zA7,zA3,↓reduceIte,Option.some.injEq,Nat.reduceEqDiff,reduceCtorEq,Tryz.f97]
  rw [zA0]
  exfalso
  omega
 | succ q ih =>
  intro j hj x y hyb hyb2 hpx hxy hq hr E g0 g1 g2 g3 g4 g18 g19 g20 g21 g22
  have hk':(j:Int)<((N:Nat):Int):=by omega
  have hk2:j<N:=by omega
  rw [bsr] at hr
  by_cases c:x<y
  ·rw [if_pos c] at hr
   have hpx':=hpx c
   obtain ⟨h,hh⟩:∃ h,(x+y)/2=h:=⟨_,rfl⟩
   have e1:=half x y
   have e2:=halfw (x:=x) (y:=y) (by omega)
   rw [hh] at hr e1
   have e3:IntKind.i64.wrap (h:Int)=h:=w64 (by omega) (by omega)
   have e4:(pp:Int)-h=((pp-h:Nat):Int):=by omega
   have x1:=hB (pp-h) (by omega)
   have x2:=hB h (by omega)
   have hcc:=fun (b0:Nat) G=>hc.call b0 _ _ G x1 x2
   have k1:=hc.bd (L.getD (pp-h) 0)
   have k2:=hc.bd (L.getD h 0)
   have c':(x:Int)<y:=by omega
   by_cases d:key (L.getD (pp-h) 0)-key (L.getD h 0)<0
   ·have d':¬ (!decide (key (gt L (pp-h))-key (gt L h)<0))=true:=by
     simp only [Bool.not_eq_true',decide_eq_false_iff_not,Decidable.not_not]
     exact d
    rw [if_neg d'] at hr
    simp only [zA6,zA4,zA5,zA7,zA3,↓reduceIte,Option.some.injEq,Nat.reduceEqDiff,reduceCtorEq,Tryz.f97]
    rw [zA0]
    simp -implicitDefEqProofs (maxSteps:=1000000) (disch:=first|rfl|omega|assumption) only [go_sem,g0,g1,g2,g3,g4,g18,g19,g20,g21,g22,ltT,ltF,leT,hk',c',e1,e2,e3]
    rw [zAa];rotate_left;kernel_rfl
    simp -implicitDefEqProofs (maxSteps:=1000000) (disch:=first|rfl|omega|assumption) only [go_sem,g0,g1,g2,g3,g4,g18,g19,g20,g21,g22,ltT,ltF,leT,hk',f1,f2,hcc,d,e4]
    exact ih (j+1) (by omega) x h (by omega) (by omega) (by omega) (by omega) (by omega) hr _ (by exact g0) (by exact g1) (by exact g2) (by exact g3) (by exact g4) (by exact g18) (by exact g19) (by exact g20) (by rfl) (by exact g22)
   ·have d':(!decide (key (gt L (pp-h))-key (gt L h)<0))=true:=by
     simp only [Bool.not_eq_true',decide_eq_false_iff_not]
     exact d
    rw [if_pos d'] at hr
    simp only [zA6,zA4,zA5,zA7,zA3,↓reduceIte,Option.some.injEq,Nat.reduceEqDiff,reduceCtorEq,Tryz.f97]
    rw [zA0]
    simp -implicitDefEqProofs (maxSteps:=1000000) (disch:=first|rfl|omega|assumption) only [go_sem,g0,g1,g2,g3,g4,g18,g19,g20,g21,g22,ltT,ltF,leT,hk',c',e1,e2,e3]
    rw [zAa];rotate_left;kernel_rfl
    simp -implicitDefEqProofs (maxSteps:=1000000) (disch:=first|rfl|omega|assumption) only [go_sem,g0,g1,g2,g3,g4,g18,g19,g20,g21,g22,ltT,ltF,leT,hk',f1,f2,hcc,d,e4]
    exact ih (j+1) (by omega) (h+1) y hyb hyb2 (by omega) (by omega) (by omega) hr _ (by exact g0) (by exact g1) (by exact g2) (by exact g3) (by exact g4) (by exact g18) (by exact g19) (by rfl) (by exact g21) (by exact g22)
  ·rw [if_neg c] at hr
   subst hr
   have c':¬ (x:Int)<y:=by omega
   simp only [zA6,zA4,zA5,zA7,zA3,↓reduceIte,Option.some.injEq,Nat.reduceEqDiff,reduceCtorEq,Tryz.f97]
   rw [zA0]
   simp -implicitDefEqProofs (maxSteps:=1000000) (disch:=first|rfl|omega|assumption) only [go_sem,g0,g1,g2,g3,g4,g18,g19,g20,g21,g22,ltT,ltF,leT,hk',c']
   exact hK _ (by exact g0) (by exact g1) (by exact g2) (by exact g3) (by exact g4) (by exact g18) (by exact g19) (by exact g20)
end Go.Ab
