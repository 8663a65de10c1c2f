/- Forgetting: at a mark, and behind a call. -/
import Derived.Test.YtjhnlfgleicnjaaGreatC2
namespace Go.Ab
set_option linter.unusedSimpArgs false
set_option linter.unusedVariables false
section
variable {C:Cfg} {P:Program} {B:Nat} {F:FI} {c:Cx} {e:Env} {a:Act}
theorem keepEnv_get (e:Env) (L:List Nat) (k:Nat):(zB3 e L).get k=e.get k∨(zB3 e L).get k=.undef:=by
 induction L with
 | nil=>exact .inr rfl
 | cons x r ih =>
  simp only [zB3,Env.get]
  split
  ·rename_i h;subst h;exact .inl rfl
  ·exact ih
theorem keepEnv_lt {N:Nat} {e:Env} (h:envLt N e=true):∀ L,envLt N (zB3 e L)=true
 | []=>rfl
 | k::r=>by simp only [zB3,envLt,Bool.and_eq_true];exact ⟨envLt_get h k,keepEnv_lt h r⟩
theorem heapLt_get {N:Nat}:∀ {H:Heap},heapLt N H=true→∀ {l:Nat} {o:AO},H[l]? = some o→o.lt N=true:=fun h=>getElem?_of_heapLt h
theorem gcSt_ok {s s':St} {L:List Nat} {m:Nat} {tm:Array Value} {df:List Deferred} {rd:Option Nat} {todo:List Item} (h:gcSt F L m s=some s') (f:FOk P B c F s tm df rd todo) :
  ∃ c',FOk P B c' F s' tm df rd todo∧c'.w=c.w∧TrB F.base F.base c c'∧s'.pan=s.pan∧∀ V,Pans c V s.pan→Pans c' V s'.pan:=by
 unfold gcSt at h
 simp only at h
 split at h
 ·rename_i hc
  simp only [Bool.and_eq_true] at hc
  obtain ⟨h1,h2,h3⟩:=hc
  cases h
  have hle:=f.hb.le
  have hlt:∀ l o,l<F.base+m→c.H[l]? = some o→o.lt (F.base+m)=true:=by
   intro l o hl ho
   by_cases hb:l<F.base
   ·exact AO.zAu (Nat.le_add_right _ _) (f.hb.old l o hb ho)
   ·refine heapLt_get h2 (l:=l-F.base) ?_
    rw [List.getElem?_drop,List.getElem?_take,if_pos (by omega),show F.base+(l-F.base)=l by omega,← f.hH]
    exact ho
  refine ⟨c.drop (F.base+m),?_,rfl,drop_trb (Nat.le_add_right _ _) c,rfl,fun V hp v r hv=>Rel.drop _ _ (hp v r hv) (zAu (Nat.le_add_right _ _) _ (f.pan v r hv))⟩
  exact {
   hH:=by simp [Cx.drop,f.hH]
   sim:=f.sim.drop hlt
   hb:={
    le:=by simp [Cx.drop];omega
    old:=fun l o hl ho=>by
     simp only [Cx.drop,List.getElem?_take] at ho
     split at ho
     ·exact f.hb.old l o hl ho
     ·cases ho
    all:=fun l o ho=>by
     simp only [Cx.drop,List.getElem?_take] at ho
     split at ho
     ·rename_i hl
      simp only [Cx.drop,List.length_take]
      by_cases hm:F.base+m≤c.H.length
      ·rw [Nat.min_eq_left hm];exact hlt l o hl ho
      ·rw [Nat.min_eq_right (by omega)];exact f.hb.all l o ho
     ·cases ho }
   lo:=f.lo
   env:=fun k=>by
    have hk:Rel c ((zB3 s.env L).get k) (tm.getD k Go.undef):=by
     rcases keepEnv_get s.env L k with h | h<;>rw [h]
     ·exact f.env k
     ·simp only [Rel]
    exact Rel.drop _ _ hk (envLt_get h1 k)
   fn:=f.fn
   dfr:=f.dfr.drop h3
   rd:=f.rd.drop (Nat.le_add_right _ _)
   pan:=f.pan
   elt:=by
    simp only [Cx.drop,List.length_take]
    by_cases hm:F.base+m≤c.H.length
    ·rw [Nat.min_eq_left hm];exact h1
    ·rw [Nat.min_eq_right (by omega)];exact keepEnv_lt f.elt L }
 ·cases h
theorem elems_seal {l n:Nat} {xs:List AV} {N:Nat} {V:Value} (hs:Sim P B c) (hl:N≤l) (he:elems c.H (.gsl l n)=some xs) (r:Rel c (.gsl l n) V):Rel (c.drop N) (.sl false xs) V:=by
 simp only [elems] at he
 split at he
 ·rename_i sz ys hg
  split at he
  ·rename_i hn
   cases he
   simp only [Rel] at r
   obtain ⟨ad,cap,sz',xs',rfl,hx,hle,r⟩:=r
   rw [hg] at hx
   cases hx
   rcases r hn with ⟨h1,h2,h3⟩ | ⟨b,cells,T,fr,h1,rfl,h3,h4,h5⟩
   ·have hxs:=List.eq_nil_of_length_eq_zero (hn.trans h2)
    subst hxs
    simp only [List.length_nil] at hn
    subst hn
    simp only [Rel]
    exact ⟨ad,cap,rfl,⟨by simp,by simp⟩,⟨rfl,by simp⟩,.inl trivial⟩
   ·obtain ⟨o,ho,hr⟩:=hs.obj l b h1
    rw [hg] at ho
    cases ho
    simp only [RelO] at hr
    obtain ⟨ys,rest,T',g1,g2,g3,g4,g5⟩:=hr
    obtain ⟨hB,hsz⟩:=hs.lo l b h1
    simp only [Rel]
    refine ⟨_,cap,by rw [hn],⟨by simp,by omega⟩,⟨g4,g5⟩,.inr ⟨b,0,_,ys,rfl,hsz,?_,RelL.drop _ _ g2 (ltL_mono (Nat.zero_le _) _ g4),g3,?_⟩⟩
    ·rintro ⟨l',hl'⟩
     simp only [Cx.drop] at hl'
     split at hl'
     ·rename_i hlt
      have:=hs.inj _ _ _ hl' h1
      omega
     ·cases hl'
    ·intro k hk
     simp only [Cx.drop,World.cell?,g1,Nat.zero_add]
     rw [List.getElem?_toArray,List.getElem?_append_left hk];rfl
  ·cases he
 ·cases he
theorem sealG_rel {N:Nat} {v:AV} {V:Value} (hs:Sim P B c) (hv:(sealG c.H N v).lt N=true) (r:Rel c v V):Rel (c.drop N) (sealG c.H N v) V:=by
 unfold sealG at hv ⊢
 split
 ·rename_i l n
  simp only at hv
  split
  ·rename_i hl
   exact Rel.drop _ _ r (by simpa [AV.lt] using hl)
  ·rename_i hl
   rw [if_neg hl] at hv
   cases he:elems c.H (.gsl l n) with
   | some xs=>exact elems_seal hs (by omega) he r
   | none =>
    rw [he] at hv
    simp only [AV.lt,decide_eq_true_eq] at hv
    exact absurd hv hl
 ·rename_i hne
  refine Rel.drop _ _ r ?_
  split at hv
  ·exact absurd rfl (hne _ _)
  ·exact hv
theorem sealLG_rel {N:Nat} (hs:Sim P B c):∀ (vs:List AV) (ys:List Value),ltL N (vs.map (sealG c.H N))=true→RelL c vs ys→RelL (c.drop N) (vs.map (sealG c.H N)) ys
 | [],ys,_,r=>by simpa [RelL] using r
 | v::vs,ys,h,r=>by
  simp only [List.map_cons,ltL,Bool.and_eq_true] at h
  simp only [RelL] at r
  obtain ⟨y,s,rfl,hy,hs'⟩:=r
  simp only [List.map_cons,RelL]
  exact ⟨y,s,rfl,sealG_rel hs h.1 hy,sealLG_rel hs vs s h.2 hs'⟩
theorem sealV_rel {N:Nat} {v:AV} {V:Value} (hs:Sim P B c) (hv:(sealV c.H N v).lt N=true) (r:Rel c v V):Rel (c.drop N) (sealV c.H N v) V:=by
 unfold sealV at hv ⊢
 split
 ·rename_i vs
  simp only [Rel] at r
  obtain ⟨ar,rfl,ra⟩:=r
  simp only [Rel]
  simp only [AV.lt] at hv
  exact ⟨ar,rfl,sealLG_rel hs vs _ hv ra⟩
 ·rename_i hne
  refine sealG_rel hs ?_ r
  split at hv
  ·exact absurd rfl (hne _)
  ·exact hv
theorem sealL_rel {N:Nat} (hs:Sim P B c):∀ (vs:List AV) (ys:List Value),ltL N (vs.map (sealV c.H N))=true→RelL c vs ys→RelL (c.drop N) (vs.map (sealV c.H N)) ys
 | [],ys,_,r=>by simpa [RelL] using r
 | v::vs,ys,h,r=>by
  simp only [List.map_cons,ltL,Bool.and_eq_true] at h
  simp only [RelL] at r
  obtain ⟨y,s,rfl,hy,hs'⟩:=r
  simp only [List.map_cons,RelL]
  exact ⟨y,s,rfl,sealV_rel hs h.1 hy,sealL_rel hs vs s h.2 hs'⟩
theorem sealH_get {H:Heap} {N:Nat}:∀ (G:Heap) (l:Nat),(sealH H N G)[l]? = (G[l]?).map (sealO H N)
 | [],l=>by simp [sealH]
 | o::r,0=>by simp [sealH]
 | o::r,l+1=>by simp only [sealH,List.getElem?_cons_succ];exact sealH_get r l
theorem sealH_len {H:Heap} {N:Nat}:∀ (G:Heap),(sealH H N G).length=G.length
 | []=>rfl
 | o::r=>by simp only [sealH,List.length_cons,sealH_len r]
theorem sealE_get {H:Heap} {N:Nat}:∀ (e:Env) (k:Nat),(sealE H N e).get k=sealK H N (e.get k)
 | [],k=>by simp [sealE,Env.get,sealK,AV.lt]
 | (x,v)::r,k=>by
  simp only [sealE,Env.get]
  split
  ·rfl
  ·exact sealE_get r k
theorem sealE_id {H:Heap} {N M:Nat} (hM:M≤N):∀ {e:Env},envLt M e=true→sealE H N e=e
 | [],_=>rfl
 | (x,v)::r,h=>by
  simp only [envLt,Bool.and_eq_true] at h
  simp only [sealE,sealK,zAu hM _ h.1,if_true,sealE_id hM h.2]
theorem sealP_rel {N:Nat} {v:AV} {V:Value} (hs:Sim P B c) (hn:¬ v.lt N=true) (hv:(sealP c.H N v).lt N=true) (r:Rel c v V):Rel (c.drop N) (sealP c.H N v) V:=by
 unfold sealP at hv ⊢
 split
 ·rename_i l off
  simp only [AV.lt,decide_eq_true_eq] at hn
  simp only at hv
  split
  ·rename_i w hl
   rw [hl] at hv
   simp only at hv
   split
   ·rename_i hw
    simp only [Rel] at r ⊢
    obtain ⟨b,h1,_,rfl⟩:=r
    obtain ⟨o,ho,hro⟩:=hs.obj l b h1
    rw [hl] at ho
    cases ho
    obtain ⟨y,T,g1,g2,g3,g4⟩:=hro
    refine ⟨⟨hw,g4⟩,b,0,y,by simp,(hs.lo l b h1).2,?_,Rel.drop _ _ g2 (zAu (Nat.zero_le _) _ hw),?_⟩
    ·rintro ⟨l',hl'⟩
     simp only [Cx.drop] at hl'
     split at hl'
     ·have:=hs.inj _ _ _ hl' h1
      omega
     ·cases hl'
    ·intro k hk
     simp only [Cx.drop,World.cell?,g1,Nat.zero_add]
     simp
   ·rename_i hw
    rw [if_neg hw] at hv
    simp only [AV.lt,decide_eq_true_eq] at hv
    exact absurd hv hn
  ·rename_i hne
   split at hv
   ·rename_i w hw;exact absurd hw (hne w)
   ·simp only [AV.lt,decide_eq_true_eq] at hv
    exact absurd hv hn
 ·rename_i hne
  split at hv
  ·exact absurd rfl (hne _ _)
  ·exact sealV_rel hs hv r
theorem sealK_rel {N:Nat} {v:AV} {V:Value} (hs:Sim P B c) (hv:(sealK c.H N v).lt N=true) (r:Rel c v V):Rel (c.drop N) (sealK c.H N v) V:=by
 unfold sealK at hv ⊢
 split
 ·rename_i h
  exact Rel.drop _ _ r h
 ·rename_i h
  rw [if_neg h] at hv
  exact sealP_rel hs h hv r
theorem sealG_scalar {H:Heap} {N:Nat} {v:AV} (h:v.scalar=true):(sealG H N v).scalar=true:=by
 unfold sealG
 split
 ·split
  ·rfl
  ·split<;>rfl
 ·exact h
theorem sealG_known {H:Heap} {N:Nat}:∀ {l:List AV},zAc l=true→zAc (l.map (sealG H N))=true
 | [],_=>rfl
 | v::r,h=>by
  simp only [zAc,Bool.and_eq_true] at h
  simp only [List.map_cons,zAc,Bool.and_eq_true]
  exact ⟨sealG_scalar h.1,sealG_known h.2⟩
theorem sealV_known {H:Heap} {N:Nat} {v:AV} (h:known v=true):known (sealV H N v)=true:=by
 unfold sealV
 split
 ·rename_i vs
  simp only [known,AV.cells] at h ⊢
  exact sealG_known h
 ·rename_i hne
  unfold sealG
  split
  ·split
   ·exact h
   ·split
    ·rfl
    ·exact h
  ·exact h
def gcSealS (F:FI) (L:List Nat) (m:Nat) (s:St):St:={ s with env:=sealE s.H (F.base+m) (zB3 s.env L),H:=s.H.take F.base++sealH s.H (F.base+m) ((s.H.drop F.base).take m) }
theorem gcSealS_ok {s s':St} {L:List Nat} {m:Nat} {tm:Array Value} {df:List Deferred} {rd:Option Nat} {todo:List Item}
  (hc:(envLt (F.base+m) (gcSealS F L m s).env&&(heapLt (F.base+m) ((gcSealS F L m s).H.drop F.base)&&dfrLt (F.base+m) s.dfr))=true) (hs:s'=gcSealS F L m s) (f:FOk P B c F s tm df rd todo) :
  ∃ c',FOk P B c' F s' tm df rd todo∧c'.w=c.w∧TrB F.base F.base c c'∧s'.pan=s.pan∧∀ V,Pans c V s.pan→Pans c' V s'.pan:=by
 subst hs
 simp only [gcSealS,Bool.and_eq_true] at hc ⊢
 obtain ⟨h1,h2,h3⟩:=hc
 have hle:=f.hb.le
 obtain ⟨N,hN⟩:∃ N,F.base+m=N:=⟨_,rfl⟩
 have hbN:F.base≤N:=by omega
 rw [hN,← f.hH] at h1 h2
 rw [hN] at h3
 have htl:(c.H.take F.base).length=F.base:=by rw [List.length_take];omega
 rw [List.drop_left' htl] at h2
 have hget:∀ l:Nat,(c.H.take F.base++sealH c.H N ((c.H.drop F.base).take m))[l]? = ((c.H.take N)[l]?).map (sealO c.H N):=by
  intro l
  by_cases hl:l<F.base
  ·rw [List.getElem?_append_left (by omega),List.getElem?_take,if_pos hl,List.getElem?_take,if_pos (by omega)]
   cases ho:c.H[l]? with
   | none=>rfl
   | some o =>
    have:=f.hb.old l o hl ho
    simp only [Option.map_some,sealO,AO.zAu hbN this,if_true]
  ·rw [List.getElem?_append_right (by omega),sealH_get,htl]
   congr 1
   rw [List.getElem?_take,List.getElem?_take,List.getElem?_drop,show F.base+(l-F.base)=l by omega]
   by_cases hl2:l<N
   ·rw [if_pos (by omega),if_pos hl2]
   ·rw [if_neg (by omega),if_neg hl2]
 have hlen:(c.H.take F.base++sealH c.H N ((c.H.drop F.base).take m)).length=(c.H.take N).length:=by
  rw [List.length_append,sealH_len,htl,List.length_take,List.length_take,List.length_drop];omega
 have hlt:∀ (l:Nat) (o:AO),l<N→c.H[l]? = some o→(sealO c.H N o).lt N=true:=by
  intro l o hl ho
  by_cases hb:l<F.base
  ·have:=AO.zAu hbN (f.hb.old l o hb ho)
   simp only [sealO,this,if_true]
  ·refine heapLt_get h2 (l:=l-F.base) ?_
   rw [sealH_get,List.getElem?_take,if_pos (by omega),List.getElem?_drop,show F.base+(l-F.base)=l by omega,ho]
   rfl
 obtain ⟨H',hH'⟩:∃ H',c.H.take F.base++sealH c.H N ((c.H.drop F.base).take m)=H':=⟨_,rfl⟩
 rw [hH'] at hget hlen
 have hkd:∀ o,Kind o (sealO c.H N o):=by
  intro o
  unfold sealO
  split
  ·exact Kind.refl o
  ·unfold sealB
   split
   ·trivial
   ·exact Kind.refl _
 have hbel:∀ l:Nat,l<F.base→H'[l]? = c.H[l]? := by
  intro l hl
  rw [hget,List.getElem?_take,if_pos (by omega)]
  cases ho:c.H[l]? with
  | none=>rfl
  | some o=>simp only [Option.map_some,sealO,AO.zAu hbN (f.hb.old l o hl ho),if_true]
 have hx:Ext (c.drop N) ⟨c.w,(c.drop N).ρ,H'⟩:={
  sys:=⟨rfl,rfl,rfl⟩
  size:=Nat.le_refl _
  kind:=fun l o ho=>⟨sealO c.H N o,by rw [hget];simp only [Cx.drop] at ho;rw [ho];rfl,hkd o⟩
  grow:=fun _ _ _ _ _ _ _=>rfl
  same:=fun _ _ _ _ h _=>h
  kept:=fun _ _ h=>⟨h,rfl⟩
  cells:=fun _ cs _ fr h=>⟨cs,fr,h,rfl⟩ }
 have hsim:Sim P B (c.drop N)∨True:=.inr trivial
 refine ⟨⟨c.w,(c.drop N).ρ,H'⟩,?_,rfl,?_,trivial,fun V hp v r hv=>Rel.ext hx _ _ (Rel.drop _ _ (hp v r hv) (zAu hbN _ (f.pan v r hv)))⟩
 ·exact {
   hH:=by rw [← f.hH,hN];exact hH'.symm
   sim:={
    obj:=fun (l b:Nat) hl=>by
     have hl':=hl
     simp only [Cx.drop] at hl'
     split at hl'
     ·rename_i hln
      obtain ⟨o,ho,hr⟩:=f.sim.obj l b hl'
      refine ⟨sealO c.H N o,by simp only;rw [hget,List.getElem?_take,if_pos hln,ho];rfl,?_⟩
      have ht:=hlt l o hln ho
      by_cases hol:o.lt N=true
      ·have e:sealO c.H N o=o:=by simp only [sealO,hol,if_true]
       rw [e]
       exact RelO.ext hx rfl (hr.drop hol)
      ·have e:sealO c.H N o=sealB c.H N o:=by simp only [sealO,hol];rfl
       rw [e] at ht ⊢
       cases o with
       | box v =>
        obtain ⟨y,T,g1,g2,g3,g4⟩:=hr
        exact ⟨y,T,g1,Rel.ext hx _ _ (sealV_rel f.sim ht g2),g3,sealV_known g4⟩
       | _=>exact absurd ht hol
     ·cases hl'
    inj:=fun l l' b hl hl'=>by
     simp only [Cx.drop] at hl hl'
     split at hl<;>split at hl'<;>first | exact f.sim.inj l l' b hl hl' | (cases hl;done) | (cases hl';done)
    lo:=fun l b hl=>by
     simp only [Cx.drop] at hl
     split at hl
     ·exact f.sim.lo l b hl
     ·cases hl
    glob:=fun g v hm=>Rel.ext hx _ _ (Rel.drop _ _ (f.sim.glob g v hm) rfl) }
   hb:={
    le:=by simp only;rw [hlen,List.length_take];omega
    old:=fun (l:Nat) (o:AO) hl ho=>by
     simp only at ho
     rw [hbel l hl] at ho
     exact f.hb.old l o hl ho
    all:=fun (l:Nat) (o:AO) ho=>by
     simp only at ho ⊢
     rw [hlen,List.length_take]
     rw [hget,List.getElem?_take] at ho
     split at ho
     ·rename_i hl
      cases ho1:c.H[l]? with
      | none=>rw [ho1] at ho;cases ho
      | some o1 =>
       rw [ho1,Option.map_some] at ho
       cases ho
       by_cases hm:N≤c.H.length
       ·rw [Nat.min_eq_left hm];exact hlt l o1 hl ho1
       ·rw [Nat.min_eq_right (by omega)]
        have h5:=f.hb.all l o1 ho1
        simp only [sealO,AO.zAu (show c.H.length≤N by omega) h5,if_true]
        exact h5
     ·cases ho }
   lo:=f.lo
   env:=fun k=>by
    have hk:Rel c ((zB3 s.env L).get k) (tm.getD k Go.undef):=by
     rcases keepEnv_get s.env L k with h | h<;>rw [h]
     ·exact f.env k
     ·simp only [Rel]
    have h4:=envLt_get h1 k
    rw [sealE_get] at h4
    simp only
    rw [hN,← f.hH,sealE_get]
    exact Rel.ext hx _ _ (sealK_rel f.sim h4 hk)
   fn:=f.fn
   dfr:=RelD.ext hx (f.dfr.drop h3)
   rd:=RdOk.ext hx (f.rd.drop hbN)
   pan:=f.pan
   elt:=by
    simp only
    rw [hlen,List.length_take,hN,← f.hH]
    by_cases hm:N≤c.H.length
    ·rw [Nat.min_eq_left hm];exact h1
    ·rw [Nat.min_eq_right (by omega)]
     have h5:=keepEnv_lt f.elt L
     rw [sealE_id (show c.H.length≤N by omega) h5]
     exact h5 }
 ·exact {
   sys:=⟨rfl,rfl,rfl⟩
   size:=Nat.le_refl _
   kind:=fun (l:Nat) (o:AO) hl ho=>⟨o,by simp only;rw [hbel l hl];exact ho,Kind.refl o⟩
   grow:=fun l sz xs xs' hl _ _ _=>by simp [Cx.drop,show l<N by omega]
   same:=fun l b o hl _ h _=>by simp [Cx.drop,show l<N by omega,h]
   kept:=fun b _ ho=>⟨drop_owned ho,rfl⟩
   cells:=fun b cs T fr h=>⟨cs,fr,h,rfl⟩
   un:=fun (l:Nat) (o:AO) hl ho h _=>⟨by simp [Cx.drop,show l<N by omega,h],by simp only;rw [hbel l hl];exact ho⟩
   lt:=fun (l M:Nat) (o o':AO) hl ho ho' _ h=>by
    simp only at ho'
    rw [hbel l hl,ho] at ho'
    cases ho'
    exact h }
theorem RelL.setv {c c':Cx} (hx:∀ v y,Rel c v y→Rel c' v y):∀ {cs:List AV} {ys:List Value} {k:Nat} {v:AV},RelL c cs ys→(∀ y,ys[k]? = some y→Rel c' v y)→RelL c' (cs.set k v) ys
 | [],ys,k,v,r,_=>by simpa [RelL] using r
 | x::cs,ys,0,v,r,h=>by
  simp only [RelL] at r
  obtain ⟨y,s,rfl,h1,h2⟩:=r
  simp only [List.set_cons_zero,RelL]
  have aux:∀ (cs:List AV) (s:List Value),RelL c cs s→RelL c' cs s:=by
   intro cs
   induction cs with
   | nil=>intro s r;simpa [RelL] using r
   | cons a cs ih =>
    intro s r
    simp only [RelL] at r ⊢
    obtain ⟨y',s',rfl,g1,g2⟩:=r
    exact ⟨y',s',rfl,hx _ _ g1,ih s' g2⟩
  exact ⟨y,s,rfl,h y rfl,aux cs s h2⟩
 | x::cs,ys,k+1,v,r,h=>by
  simp only [RelL] at r
  obtain ⟨y,s,rfl,h1,h2⟩:=r
  simp only [List.set_cons_succ,RelL]
  exact ⟨y,s,rfl,hx _ _ h1,RelL.setv hx h2 (fun z hz=>h z (by simpa using hz))⟩
theorem isNil_eq {v:AV} (h:zAs v=true):v=.sl true []:=by
 unfold zAs at h
 split at h
 ·rfl
 ·cases h
theorem nil_val {c:Cx} {V:Value} (r:Rel c (.sl true []) V):∃ ad,V=.slice ad 0 0:=by
 simp only [Rel] at r
 obtain ⟨ad,cap,hX,hcap,_⟩:=r
 have hc0:=hcap.1 trivial
 simp only [List.length_nil] at hc0 hX
 subst hc0
 exact ⟨ad,hX⟩
theorem allScalar_set {v:AV} (h:v.scalar=true):∀ {cs:List AV} {k:Nat},zAc cs=true→zAc (cs.set k v)=true
 | [],_,_=>rfl
 | x::r,0,hh=>by
  simp only [zAc,Bool.and_eq_true] at hh
  simp only [List.set_cons_zero,zAc,Bool.and_eq_true]
  exact ⟨h,hh.2⟩
 | x::r,k+1,hh=>by
  simp only [zAc,Bool.and_eq_true] at hh
  simp only [List.set_cons_succ,zAc,Bool.and_eq_true]
  exact ⟨hh.1,allScalar_set h hh.2⟩
def Begun (P:Program) (B:Nat) (F:FI) (c:Cx) (s s':St) (tm:Array Value) (df:List Deferred) (rd:Option Nat) (todo:List Item):Prop :=
 ∃ c',FOk P B c' F s' tm df rd todo∧c'.w=c.w∧TrB F.base F.base c c'∧s'.pan=s.pan∧∀ V,Pans c V s.pan→Pans c' V s'.pan
theorem Begun.refl {s:St} {tm:Array Value} {df:List Deferred} {rd:Option Nat} {todo:List Item} (f:FOk P B c F s tm df rd todo):Begun P B F c s s tm df rd todo :=
 ⟨c,f,rfl,TrB.refl _ _ _,rfl,fun _ hp=>hp⟩
theorem nilT_ok {s:St} {t:NT} {v:AV} {tm:Array Value} {df:List Deferred} {rd:Option Nat} {todo:List Item} (hv:v=s.env.get t.k) (f:FOk P B c F s tm df rd todo):Begun P B F c s (nilT t v s) tm df rd todo:=by
 unfold nilT
 split
 ·rename_i hn
  have hn:=isNil_eq hn
  have hr:=f.env t.k
  rw [← hv,hn] at hr
  obtain ⟨ad,hV⟩:=nil_val hr
  obtain ⟨g1,g2,g3⟩:=nil_step f.sim f.hb t.sz
  refine ⟨⟨c.w,c.ρ,c.H++[.grow t.sz []]⟩,?_,rfl,g2.below,rfl,fun V hp=>hp.ext g2.ext⟩
  exact {
   hH:=by simp only;rw [f.hH]
   sim:=g1
   hb:=g3
   lo:=f.lo
   env:=fun k=>by
    simp only [Env.get]
    split
    ·rename_i e
     subst e
     rw [hV,← f.hH]
     exact nil_rel f.sim t.sz ad
    ·exact Rel.ext g2.ext _ _ (f.env k)
   fn:=f.fn
   dfr:=f.dfr.ext g2.ext
   rd:=f.rd.ext g2.ext
   pan:=f.pan
   elt:=by
    simp only [envLt,Bool.and_eq_true,List.length_append,List.length_cons,List.length_nil]
    exact ⟨by rw [← f.hH];simp [AV.lt],envLt_mono (by omega) f.elt⟩ }
 ·obtain ⟨g1,g2,g3⟩:=nil_step f.sim f.hb t.sz
  refine ⟨⟨c.w,c.ρ,c.H++[.grow t.sz []]⟩,?_,rfl,g2.below,rfl,fun V hp=>hp.ext g2.ext⟩
  exact {
   hH:=by simp only;rw [f.hH]
   sim:=g1
   hb:=g3
   lo:=f.lo
   env:=fun k=>Rel.ext g2.ext _ _ (f.env k)
   fn:=f.fn
   dfr:=f.dfr.ext g2.ext
   rd:=f.rd.ext g2.ext
   pan:=f.pan
   elt:=by
    simp only [List.length_append,List.length_cons,List.length_nil]
    exact envLt_mono (by omega) f.elt }
theorem nilBox_ok {s:St} {k l o sz:Nat} {v v':AV} {tm:Array Value} {df:List Deferred} {rd:Option Nat} {todo:List Item} (hk:s.env.get k=.ptr l o) (hbl:F.base≤l) (ho:c.H[l]? = some (.box v))
  (hkn:known v'=true) (hlt':v'.lt (c.H.length+1)=true) (hrel:∀ (cx:Cx) (y:Value),Rel c v y→(∀ v y,Rel c v y→Rel cx v y)→(∀ ad,Rel cx (.gsl c.H.length 0) (.slice ad 0 0))→Rel cx v' y)
  (f:FOk P B c F s tm df rd todo):Begun P B F c s { s with H:=c.H.set l (.box v')++[.grow sz []] } tm df rd todo:=by
 have hp:=f.env k
 rw [hk] at hp
 simp only [Rel] at hp
 obtain ⟨b,hl,_,_⟩:=hp
 obtain ⟨x,hx,y,T,h1,h2,h3,h4⟩:∃ x,c.H[l]? = some x∧RelO P c b (.box v):=by
  obtain ⟨x,hx,hr⟩:=f.sim.obj l b hl
  rw [ho] at hx
  cases hx
  exact ⟨_,ho,hr⟩
 obtain ⟨g1,g2,g3⟩:=nil_step f.sim f.hb sz
 have hlt:l<c.H.length:=(List.getElem?_eq_some_iff.1 ho).1
 have ho1:(c.H++[AO.grow sz []])[l]? = some (.box v):=by rw [List.getElem?_append_left hlt];exact ho
 have hw:Wr (⟨c.w,c.ρ,c.H++[.grow sz []]⟩:Cx) b c.w:=⟨⟨rfl,rfl,rfl⟩,rfl,fun _ _=>rfl,fun cs _ fr h=>⟨cs,fr,h,rfl⟩⟩
 have hext:=wr_ext (c:=⟨c.w,c.ρ,c.H++[.grow sz []]⟩) (o:=.box v) (a:=.box v') hl ho1 hw trivial
 have hro:RelO P ((⟨c.w,c.ρ,c.H++[.grow sz []]⟩:Cx).wr c.w l (.box v')) b (.box v') :=
  ⟨y,T,h1,hrel _ y h2 (fun v y r=>Rel.ext (g2.ext.trans hext) _ _ r) (fun ad=>Rel.ext hext _ _ (nil_rel f.sim sz ad)),h3,hkn⟩
 have hsim:=wr_sim (c:=⟨c.w,c.ρ,c.H++[.grow sz []]⟩) (o:=.box v) (a:=.box v') g1 hl ho1 hw trivial hro
 have htr:=wr_tr (c:=⟨c.w,c.ρ,c.H++[.grow sz []]⟩) (base:=F.base) (o:=.box v) (a:=.box v') hl ho1 hw trivial (fun N hb _ _=>absurd hb (by omega))
 have hhb:=set_hb g3 ho1 (a:=.box v') (fun hb=>absurd hb (by omega)) (by simp only [List.length_append,List.length_cons,List.length_nil];exact hlt')
 have hH:(c.H++[AO.grow sz []]).set l (.box v')=c.H.set l (.box v')++[.grow sz []]:=List.set_append_left _ _ hlt
 refine ⟨(⟨c.w,c.ρ,c.H++[.grow sz []]⟩:Cx).wr c.w l (.box v'),?_,rfl,(g2.trans htr).below,rfl,fun V hp=>(hp.ext g2.ext).ext hext⟩
 exact {
  hH:=by simp only [Cx.wr];rw [hH]
  sim:=hsim
  hb:=hhb
  lo:=f.lo
  env:=fun k=>Rel.ext (g2.ext.trans hext) _ _ (f.env k)
  fn:=f.fn
  dfr:=f.dfr.ext (g2.ext.trans hext)
  rd:=f.rd.ext (g2.ext.trans hext)
  pan:=f.pan
  elt:=by
   simp only [Cx.wr,List.length_set,List.length_append,List.length_cons,List.length_nil]
   exact envLt_mono (by omega) f.elt }
theorem nilB_ok {s:St} {k l o sz off:Nat} {tm:Array Value} {df:List Deferred} {rd:Option Nat} {todo:List Item} (hk:s.env.get k=.ptr l o) (f:FOk P B c F s tm df rd todo):Begun P B F c s (nilB F.base l off sz s.H[l]? s) tm df rd todo:=by
 unfold nilB
 split
 ·rename_i cs ho
  split
  ·rename_i hc
   simp only [Bool.and_eq_true,decide_eq_true_eq] at hc
   obtain ⟨hn,hbl⟩:=hc
   have hn:=isNil_eq hn
   have hH:=f.hH
   rw [← hH] at ho ⊢
   have h4:known (.agg cs)=true:=by
    have hp:=f.env k
    rw [hk] at hp
    simp only [Rel] at hp
    obtain ⟨b,hl,_,_⟩:=hp
    obtain ⟨x,hx,hr⟩:=f.sim.obj l b hl
    rw [ho] at hx
    cases hx
    obtain ⟨_,_,_,_,_,h4⟩:=hr
    exact h4
   refine nilBox_ok hk hbl ho (allScalar_set rfl h4) ?_ ?_ f
   ·have:=f.hb.all l _ ho
    simp only [AO.lt,AV.lt] at this ⊢
    have key:∀ (cs:List AV) (k:Nat),ltL c.H.length cs=true→ltL (c.H.length+1) (cs.set k (.gsl c.H.length 0))=true:=by
     intro cs
     induction cs with
     | nil=>intro k _;rfl
     | cons x cs ih =>
      intro k h
      simp only [ltL,Bool.and_eq_true] at h
      cases k with
      | zero=>simp only [List.set_cons_zero,ltL,Bool.and_eq_true];exact ⟨by simp [AV.lt],ltL_mono (by omega) _ h.2⟩
      | succ k=>simp only [List.set_cons_succ,ltL,Bool.and_eq_true];exact ⟨zAu (by omega) _ h.1,ih k h.2⟩
    exact key cs off this
   ·intro cx y h2 hx hg
    simp only [Rel] at h2 ⊢
    obtain ⟨a,rfl,h2⟩:=h2
    refine ⟨a,rfl,RelL.setv hx h2 fun z hz=>?_⟩
    have hz':Rel c (.sl true []) z:=by
     have key:∀ (cs:List AV) (ys:List Value) (k:Nat),RelL c cs ys→ys[k]? = some z→Rel c (cs.getD k .undef) z:=by
      intro cs
      induction cs with
      | nil=>intro ys k r hz;simp only [RelL] at r;subst r;simp at hz
      | cons x cs ih =>
       intro ys k r hz
       simp only [RelL] at r
       obtain ⟨y,s,rfl,g1,g2⟩:=r
       cases k with
       | zero=>simp at hz;subst hz;simpa using g1
       | succ k=>simpa using ih s k g2 (by simpa using hz)
     have:=key cs a.toList off h2 hz
     rwa [hn] at this
    obtain ⟨ad,rfl⟩:=nil_val hz'
    exact hg ad
  ·exact Begun.refl f
 ·rename_i ho
  split
  ·rename_i hbl
   simp only [decide_eq_true_eq] at hbl
   have hH:=f.hH
   rw [← hH] at ho ⊢
   refine nilBox_ok hk hbl ho rfl (by simp [AV.lt]) ?_ f
   intro cx y h2 hx hg
   obtain ⟨ad,rfl⟩:=nil_val h2
   exact hg ad
  ·exact Begun.refl f
 ·exact Begun.refl f
theorem Begun.trans {s s1 s2:St} {tm:Array Value} {df:List Deferred} {rd:Option Nat} {todo:List Item} (h:Begun P B F c s s1 tm df rd todo) (h':∀ c1,FOk P B c1 F s1 tm df rd todo→Begun P B F c1 s1 s2 tm df rd todo):Begun P B F c s s2 tm df rd todo:=by
 obtain ⟨c1,f1,e1,t1,p1,q1⟩:=h
 obtain ⟨c2,f2,e2,t2,p2,q2⟩:=h' c1 f1
 exact ⟨c2,f2,e2.trans e1,t1.trans (Nat.le_refl _) t2,p2.trans p1,fun V hp=>q2 V (q1 V hp)⟩
theorem nilSt_ok {tm:Array Value} {df:List Deferred} {rd:Option Nat} {todo:List Item}:∀ (N:List NT) {c:Cx} {s:St},FOk P B c F s tm df rd todo→Begun P B F c s (nilSt F.base N s) tm df rd todo
 | [],_,_,f=>Begun.refl f
 | t::r,c,s,f=>by
  simp only [nilSt]
  refine Begun.trans ?_ (fun c1 f1=>nilSt_ok r f1)
  split
  ·exact nilT_ok rfl f
  ·unfold nilP
   split
   ·rename_i h
    exact nilB_ok h f
   ·exact Begun.refl f
theorem gc_ok {s s':St} {id:Nat} {tm:Array Value} {df:List Deferred} {rd:Option Nat} {todo:List Item} (h:gcAt C F id s=some s') (f:FOk P B c F s tm df rd todo) {K:Nat} (hK:KOk C F K c) :
  ∃ c',FOk P B c' F s' tm df rd todo∧c'.w=c.w∧TrB K F.base c c'∧s'.pan=s.pan∧∀ V,Pans c V s.pan→Pans c' V s'.pan:=by
 unfold gcAt at h
 split at h
 ·rename_i L m hg
  split at h
  ·cases h
  rename_i hfl
  obtain rfl:K=F.base:=by
   rcases hK.1 with h | h
   ·exact h
   ·exact absurd h hfl
  split at h
  ·rename_i N hN
   unfold gcSeal at h
   simp only at h
   split at h
   ·rename_i hc
    cases h
    have:=gcSealS_ok (s':=gcSealS F L m s) hc rfl f
    exact Begun.trans this (fun c1 f1=>nilSt_ok N f1)
   ·cases h
  ·exact gcSt_ok h f
 ·cases h
  exact ⟨c,f,rfl,TrB.refl _ _ _,rfl,fun V hp=>hp⟩
theorem sealT_rel {N:Nat} {v:AV} {V:Value} (hs:Sim P B c) (hv:(sealT c.H N v).lt N=true) (r:Rel c v V):Rel (c.drop N) (sealT c.H N v) V:=by
 unfold sealT at hv ⊢
 split
 ·rename_i vs
  simp only [Rel] at r
  obtain ⟨ar,rfl,ra⟩:=r
  simp only [Rel]
  simp only [AV.lt] at hv
  exact ⟨ar,rfl,sealL_rel hs vs _ hv ra⟩
 ·rename_i hne
  refine sealV_rel hs ?_ r
  split at hv
  ·exact absurd rfl (hne _)
  ·exact hv
theorem fin_wide {base:Nat} {d:Done} {fr:Frame} {u:Up} {m:FrameMode} {pan:Option (AV×Bool)} {V:Value} (hbc:HB base c.H) (h:Fin P B c.H.length c.H.length c d fr u m pan V):Fin P B c.H.length base c d fr u m pan V:=by
 obtain ⟨c',fr',m',wl,e,h1,h2,h3,h4,h5,h6,h7,h8,h9,h10⟩:=h
 have ht:Tr base c c':=h7.full hbc.le
 have old:∀ l o,l<base→c'.H[l]? = some o→o.lt base=true:=by
  intro l o hl ho
  have:l<c.H.length:=Nat.lt_of_lt_of_le hl hbc.le
  exact ht.lt l base _ o hl (List.getElem?_eq_getElem this) ho hl (hbc.old l _ hl (List.getElem?_eq_getElem this))
 exact ⟨c',fr',m',wl,e,h1,h2,h3,h4,h5,h6,h7.low hbc.le,⟨Nat.le_trans hbc.le ht.ext.len,old,h8.all⟩,h9,h10⟩
theorem fin_done {base:Nat} {d:Done} {fr:Frame} {u:Up} {m:FrameMode} {pan:Option (AV×Bool)} {V:Value} (hbc:HB base c.H) (h:Fin P B c.H.length c.H.length c d fr u m pan V):Fin P B c.H.length base c (zAi c.H.length d) fr u m pan V:=by
 obtain ⟨c',fr',m',wl,e,h1,h2,h3,h4,h5,h6,h7,h8,h9,h10⟩:=h
 have ht:Tr base c c':=h7.full hbc.le
 have old:∀ l o,l<base→c'.H[l]? = some o→o.lt base=true:=by
  intro l o hl ho
  have:l<c.H.length:=Nat.lt_of_lt_of_le hl hbc.le
  exact ht.lt l base _ o hl (List.getElem?_eq_getElem this) ho hl (hbc.old l _ hl (List.getElem?_eq_getElem this))
 have keep:Fin P B c.H.length base c d fr u m pan V:=⟨c',fr',m',wl,e,h1,h2,h3,h4,h5,h6,h7.low hbc.le,⟨Nat.le_trans hbc.le ht.ext.len,old,h8.all⟩,h9,h10⟩
 have cut:∀ o:Out,RelR (c'.drop c.H.length) o e→Fin P B c.H.length base c ⟨o,d.H.take c.H.length,d.pan⟩ fr u m pan V:=by
  intro o ho
  have hlen:(c'.drop c.H.length).H.length=c.H.length:=by
   simp only [Cx.drop,List.length_take];exact Nat.min_eq_left ht.ext.len
  refine ⟨c'.drop c.H.length,fr',m',wl,e,h1,h2,h3,ho,by simp [Cx.drop,h5],h6.drop (fun l o hl ho=>h8.old l o hl ho),(h7.trans (Nat.le_refl _) (drop_trb (Nat.le_refl _) _)).low hbc.le,⟨by rw [hlen];exact hbc.le,?_,?_⟩,h9,h10⟩
  ·intro l o hl ho
   simp only [Cx.drop,List.getElem?_take] at ho
   split at ho
   ·exact old l o hl ho
   ·cases ho
  ·intro l o ho
   rw [hlen]
   simp only [Cx.drop,List.getElem?_take] at ho
   split at ho
   ·rename_i hl;exact h8.old l o hl ho
   ·cases ho
 unfold zAi
 split
 ·rename_i v hv
  split
  ·rename_i hlt
   refine cut _ ?_
   rw [hv] at h4
   cases e with
   | pan _=>exact h4.elim
   | ret x =>
    rw [← h5] at hlt ⊢
    exact sealT_rel h6 hlt h4
  ·exact keep
 ·rename_i v hv
  split
  ·rename_i hlt
   refine cut _ ?_
   rw [hv] at h4
   cases e with
   | ret _=>exact h4.elim
   | pan x=>exact Rel.drop _ _ h4 hlt
  ·exact keep
structure Low (N:Nat) (c d:Cx):Prop where
 w:d.w=c.w
 ρ:∀ l,l<N→d.ρ l=c.ρ l
 H:∀ l:Nat,l<N→d.H[l]? = c.H[l]?
 own:∀ b,d.owned b→c.owned b
theorem RelFn.low {N:Nat} {c d:Cx} (h:Low N c d) {f g:Fn} (hf:RelFn c f g) (hl:fnLt N f=true):RelFn d f g:=by
 cases f<;>simp only [RelFn] at hf ⊢<;>try exact hf
 simp only [fnLt,decide_eq_true_eq] at hl
 obtain ⟨b,h1,⟨r,h2⟩,rfl⟩:=hf
 exact ⟨b,by rw [h.ρ _ hl,h1],⟨r,by rw [h.H _ hl,h2]⟩,rfl⟩
mutual
theorem Rel.low {N:Nat} {c d:Cx} (h:Low N c d):∀ (v:AV) (y:Value),Rel c v y→v.lt N=true→Rel d v y
 | .int _ _,y,r,_=>by simpa only [Rel] using r
 | .bool _,y,r,_=>by simpa only [Rel] using r
 | .nilp,y,r,_=>by simpa only [Rel] using r
 | .ptr l off,y,r,hN=>by
  simp only [Rel] at r ⊢
  simp only [AV.lt,decide_eq_true_eq] at hN
  rw [h.ρ _ hN,h.H _ hN]
  exact r
 | .eptr l n i off,y,r,hN=>by
  simp only [Rel] at r ⊢
  simp only [AV.lt,decide_eq_true_eq] at hN
  rw [h.ρ _ hN,h.H _ hN]
  exact r
 | .vptr e off,y,r,hN=>by
  simp only [Rel] at r ⊢
  obtain ⟨hp,b,o,z,rfl,hb,ho,hz,hl⟩:=r
  refine ⟨hp,b,o,z,rfl,by rw [h.w];exact hb,fun hd=>ho (h.own b hd),Rel.low h e z hz (zAu (Nat.zero_le _) e hp.1),by rw [h.w];exact hl⟩
 | .sl f es,y,r,hN=>by
  simp only [Rel] at r ⊢
  obtain ⟨a,cap,rfl,hf,hp,r⟩:=r
  refine ⟨a,cap,rfl,hf,hp,r.imp id ?_⟩
  rintro ⟨b,o,sz,ys,rfl,hb,ho,hz,hs,hl⟩
  exact ⟨b,o,sz,ys,rfl,by rw [h.w];exact hb,fun hd=>ho (h.own b hd),RelL.low h es ys hz (ltL_mono (Nat.zero_le _) es hp.1),hs,by rw [h.w];exact hl⟩
 | .gsl l n,y,r,hN=>by
  simp only [Rel] at r ⊢
  simp only [AV.lt,decide_eq_true_eq] at hN
  rw [h.ρ _ hN,h.H _ hN,h.w]
  exact r
 | .wsl l n i off,y,r,hN=>by
  simp only [Rel] at r ⊢
  simp only [AV.lt,decide_eq_true_eq] at hN
  rw [h.ρ _ hN,h.H _ hN]
  exact r
 | .map l,y,r,hN=>by
  simp only [Rel] at r ⊢
  simp only [AV.lt,decide_eq_true_eq] at hN
  rw [h.ρ _ hN,h.H _ hN]
  exact r
 | .nilmap,y,r,_=>by simpa only [Rel] using r
 | .func f a b,y,r,hN=>by
  simp only [Rel] at r ⊢
  simp only [AV.lt,Bool.and_eq_true] at hN
  obtain ⟨g,a',b',rfl,hf,ha,hb⟩:=r
  exact ⟨g,a',b',rfl,hf.low h hN.1,RelL.low h a _ ha hN.2.1,RelL.low h b _ hb hN.2.2⟩
 | .nilFunc,y,r,_=>by simpa only [Rel] using r
 | .iface t x,y,r,hN=>by
  simp only [Rel] at r ⊢
  simp only [AV.lt] at hN
  obtain ⟨z,rfl,hz⟩:=r
  exact ⟨z,rfl,Rel.low h x z hz hN⟩
 | .nilIface,y,r,_=>by simpa only [Rel] using r
 | .agg cs,y,r,hN=>by
  simp only [Rel] at r ⊢
  simp only [AV.lt] at hN
  obtain ⟨a,rfl,ha⟩:=r
  exact ⟨a,rfl,RelL.low h cs _ ha hN⟩
 | .tup cs,y,r,hN=>by
  simp only [Rel] at r ⊢
  simp only [AV.lt] at hN
  obtain ⟨a,rfl,ha⟩:=r
  exact ⟨a,rfl,RelL.low h cs _ ha hN⟩
 | .undef,y,r,_=>by simp only [Rel]
theorem RelL.low {N:Nat} {c d:Cx} (h:Low N c d):∀ (l:List AV) (ys:List Value),RelL c l ys→ltL N l=true→RelL d l ys
 | [],ys,r,_=>by simpa only [RelL] using r
 | v::l,ys,r,hN=>by
  simp only [RelL] at r ⊢
  simp only [ltL,Bool.and_eq_true] at hN
  obtain ⟨y,s,rfl,hy,hs⟩:=r
  exact ⟨y,s,rfl,Rel.low h v y hy hN.1,RelL.low h l s hs hN.2⟩
end
theorem RelM.low {N:Nat} {c d:Cx} (h:Low N c d):∀ (m:List (AV×AV)) (l:List MapEntry) (i:Nat),RelM c m l i→mapLt N m=true→RelM d m l i
 | [],l,i,r,_=>by simpa only [RelM] using r
 | (k,v)::m,l,i,r,hl=>by
  simp only [RelM] at r ⊢
  simp only [mapLt,Bool.and_eq_true] at hl
  obtain ⟨e,s,rfl,hk,hv,hb,hr⟩:=r
  exact ⟨e,s,rfl,Rel.low h _ _ hk hl.1,Rel.low h _ _ hv hl.2.1,hb,RelM.low h m s _ hr hl.2.2⟩
theorem RelO.low {N:Nat} {c d:Cx} (h:Low N c d) {b:Nat} {o:AO} (r:RelO P c b o) (hl:o.lt N=true):RelO P d b o:=by
 cases o with
 | box v =>
  obtain ⟨y,T,h1,h2,h3,h4⟩:=r
  exact ⟨y,T,by rw [h.w];exact h1,Rel.low h _ _ h2 hl,h3,h4⟩
 | grow sz xs =>
  obtain ⟨ys,rest,T,h1,h2,h3,h4,h5⟩:=r
  exact ⟨ys,rest,T,by rw [h.w];exact h1,RelL.low h _ _ h2 (ltL_mono (Nat.zero_le _) xs h4),h3,h4,h5⟩
 | map kt es =>
  obtain ⟨l,h1,h2,h3⟩:=r
  exact ⟨l,by rw [h.w];exact h1,RelM.low h _ _ _ h2 hl,h3⟩
 | loop r' =>
  obtain ⟨t,d',h1,h2,h3,h4,x,h5,h6⟩:=r
  simp only [AO.lt,Bool.and_eq_true,decide_eq_true_eq] at hl
  exact ⟨t,d',by rw [h.w];exact h1,fun k=>Rel.low h _ _ (h2 k) (envLt_get hl.1 k),h3,by rw [h.ρ _ hl.2];exact h4,x,by rw [h.H _ hl.2];exact h5,h6⟩
 | dfr=>exact (by rw [h.w];exact r:d.w.heap[b]? = some (.deferred (some [])))
 | dead=>trivial
 | iter m n seen =>
  obtain ⟨x,h1,h2,y,h3,h4⟩:=r
  simp only [AO.lt,decide_eq_true_eq] at hl
  exact ⟨x,by rw [h.w];exact h1,by rw [h.ρ _ hl];exact h2,y,by rw [h.H _ hl];exact h3,h4⟩
 | dmap kt es i =>
  obtain ⟨l,h1,h2,h3⟩:=r
  exact ⟨l,by rw [h.w];exact h1,RelM.low h _ _ _ h2 hl,h3⟩
def Cx.keepG (c:Cx) (N i:Nat) (o:AO):Cx:=⟨c.w,fun l=>if l<N then c.ρ l else if l=N then c.ρ i else none,c.H.take N++[o]⟩
theorem keepG_low {N i:Nat} {o:AO} (hN:N≤c.H.length):Low N c (c.keepG N i o) where
 w:=rfl
 ρ l hl:=by simp [Cx.keepG,hl]
 H l hl:=by
  simp only [Cx.keepG]
  rw [List.getElem?_append_left (by rw [List.length_take];omega),List.getElem?_take,if_pos hl]
 own b:=by
  rintro ⟨l,hl⟩
  simp only [Cx.keepG] at hl
  split at hl
  ·exact ⟨l,hl⟩
  ·split at hl
   ·exact ⟨i,hl⟩
   ·cases hl
theorem keepG_at {N i:Nat} {o:AO} (hN:N≤c.H.length):(c.keepG N i o).H[N]? = some o:=by
 simp only [Cx.keepG]
 rw [List.getElem?_append_right (by rw [List.length_take];omega),List.length_take,show N-min N c.H.length=0 by omega]
 rfl
theorem keepG_len {N i:Nat} {o:AO} (hN:N≤c.H.length):(c.keepG N i o).H.length=N+1:=by
 simp only [Cx.keepG,List.length_append,List.length_take,List.length_cons,List.length_nil];omega
theorem keepG_sim {N i sz:Nat} {xs:List AV} (h:Sim P B c) (hN:N≤c.H.length) (hi:N≤i) (ho:c.H[i]? = some (.grow sz xs)) (hlx:ltL 0 xs=true) (hold:∀ l o,l<N→c.H[l]? = some o→o.lt N=true):Sim P B (c.keepG N i (.grow sz xs)) where
 obj l b hl:=by
  have hlow:=keepG_low (c:=c) (i:=i) (o:=.grow sz xs) hN
  by_cases h1:l<N
  ·rw [hlow.ρ l h1] at hl
   obtain ⟨o,h2,hr⟩:=h.obj l b hl
   exact ⟨o,by rw [hlow.H l h1];exact h2,hr.low hlow (hold l o h1 h2)⟩
  ·by_cases h2:l=N
   ·subst h2
    have:c.ρ i=some b:=by simpa [Cx.keepG] using hl
    obtain ⟨o,h3,hr⟩:=h.obj i b this
    rw [ho] at h3
    cases h3
    exact ⟨_,keepG_at hN,hr.low hlow (by simp only [AO.lt];exact ltL_mono (Nat.zero_le _) xs hlx)⟩
   ·simp [Cx.keepG,h1,h2] at hl
 inj l l' b hl hl':=by
  have key:∀ l b,(c.keepG N i (.grow sz xs)).ρ l=some b→(l<N∧c.ρ l=some b)∨(l=N∧c.ρ i=some b):=by
   intro l b hl
   simp only [Cx.keepG] at hl
   split at hl
   ·rename_i h1;exact .inl ⟨h1,hl⟩
   ·split at hl
    ·rename_i h2;exact .inr ⟨h2,hl⟩
    ·cases hl
  rcases key l b hl with ⟨a1,a2⟩ | ⟨a1,a2⟩<;>rcases key l' b hl' with ⟨b1,b2⟩ | ⟨b1,b2⟩
  ·exact h.inj _ _ b a2 b2
  ·have:=h.inj _ _ b a2 b2;omega
  ·have:=h.inj _ _ b a2 b2;omega
  ·omega
 lo l b hl:=by
  simp only [Cx.keepG] at hl
  split at hl
  ·exact h.lo l b hl
  ·split at hl
   ·exact h.lo i b hl
   ·cases hl
 glob g v hm:=Rel.low (keepG_low hN) _ _ (h.glob g v hm) rfl
theorem keepG_trb {base N i:Nat} {o:AO} (hb:base≤N) (hN:N≤c.H.length):TrB base base c (c.keepG N i o):=by
 have hlow:=keepG_low (c:=c) (i:=i) (o:=o) hN
 exact {
  sys:=⟨rfl,rfl,rfl⟩
  size:=Nat.le_refl _
  kind:=fun l o' hl ho=>⟨o',by rw [hlow.H l (by omega)];exact ho,Kind.refl o'⟩
  grow:=fun l sz xs xs' hl _ _ _=>hlow.ρ l (by omega)
  same:=fun l b o' hl _ h _=>by rw [hlow.ρ l (by omega)];exact h
  kept:=fun b _ ho=>⟨fun hd=>ho (hlow.own b hd),rfl⟩
  cells:=fun b cs T fr h=>⟨cs,fr,h,rfl⟩
  un:=fun l o' hl ho h _=>⟨by rw [hlow.ρ l (by omega)];exact h,by rw [hlow.H l (by omega)];exact ho⟩
  lt:=fun l M o1 o2 hl h1 h2 _ h=>by
   rw [hlow.H l (by omega),h1] at h2
   cases h2
   exact h }
theorem reV_rel {N i sz:Nat} {xs:List AV} (hN:N≤c.H.length) (ho:c.H[i]? = some (.grow sz xs)):∀ (vs:List AV) (ys:List Value),RelL c vs ys→vs.all (reOk N i)=true→RelL (c.keepG N i (.grow sz xs)) (vs.map (reV N i)) ys
 | [],ys,r,_=>by simpa only [RelL,List.map_nil] using r
 | v::vs,ys,r,h=>by
  have hlow:=keepG_low (c:=c) (i:=i) (o:=.grow sz xs) hN
  simp only [RelL] at r
  simp only [List.all_cons,Bool.and_eq_true] at h
  obtain ⟨y,s,rfl,hy,hs⟩:=r
  simp only [List.map_cons,RelL]
  refine ⟨y,s,rfl,?_,reV_rel hN ho vs s hs h.2⟩
  have h1:=h.1
  have other:v.lt N=true→reV N i v=v→Rel (c.keepG N i (.grow sz xs)) (reV N i v) y:=fun a b=>by
   rw [b];exact Rel.low hlow v y hy a
  cases v with
  | gsl l n =>
   simp only [reV]
   simp only [reOk,Bool.or_eq_true,beq_iff_eq,decide_eq_true_eq] at h1
   split
   ·rename_i e
    subst e
    simp only [Rel] at hy ⊢
    obtain ⟨a,cap,sz',xs',rfl,hx,hn,r⟩:=hy
    rw [ho] at hx
    cases hx
    refine ⟨a,cap,sz,xs,rfl,keepG_at hN,hn,fun e=>?_⟩
    have hρ:(c.keepG N l (.grow sz xs)).ρ N=c.ρ l:=by simp [Cx.keepG]
    rw [hρ]
    exact r e
   ·rename_i e
    have hl:l<N:=by omega
    exact Rel.low hlow _ y hy (by simp [AV.lt,hl])
  | _=>exact other h1 rfl
theorem fin_g {base:Nat} {d:Done} {fr:Frame} {u:Up} {m:FrameMode} {pan:Option (AV×Bool)} {V:Value} (hbc:HB base c.H) (h:Fin P B c.H.length c.H.length c d fr u m pan V):Fin P B c.H.length base c (finG c.H.length d) fr u m pan V:=by
 unfold finG
 split
 ·rename_i vs hv
  split
  ·rename_i i hgi
   split
   ·rename_i sz xs ho
    split
    ·rename_i hc
     simp only [Bool.and_eq_true,decide_eq_true_eq] at hc
     obtain ⟨⟨hi,hlx⟩,hall⟩:=hc
     obtain ⟨c',fr',m',wl,e,h1,h2,h3,h4,h5,h6,h7,h8,h9,h10⟩:=h
     have ht:Tr base c c':=h7.full hbc.le
     have hN:c.H.length≤c'.H.length:=ht.ext.len
     rw [← h5] at ho ⊢
     have hold:∀ l o,l<c.H.length→c'.H[l]? = some o→o.lt c.H.length=true:=fun l o hl ho=>h8.old l o hl ho
     refine ⟨c'.keepG c.H.length i (.grow sz xs),fr',m',wl,e,h1,h2,h3,?_,rfl,keepG_sim h6 hN hi ho hlx hold,(h7.trans (Nat.le_refl _) (keepG_trb (Nat.le_refl _) hN)).low hbc.le,⟨by rw [keepG_len hN];exact Nat.le_trans hbc.le (Nat.le_succ _),?_,?_⟩,h9,h10⟩
     ·rw [hv] at h4
      cases e with
      | pan _=>exact h4.elim
      | ret x =>
       simp only [RelR,Rel] at h4 ⊢
       obtain ⟨ar,rfl,ra⟩:=h4
       exact ⟨ar,rfl,reV_rel hN ho vs _ ra hall⟩
     ·intro l o hl ho'
      have hl2:l<c.H.length:=Nat.lt_of_lt_of_le hl hbc.le
      rw [(keepG_low hN).H l hl2] at ho'
      exact ht.lt l base _ o hl (List.getElem?_eq_getElem hl2) ho' hl (hbc.old l _ hl (List.getElem?_eq_getElem hl2))
     ·intro l o ho'
      rw [keepG_len hN]
      by_cases hl:l<c.H.length
      ·rw [(keepG_low hN).H l hl] at ho'
       exact AO.zAu (Nat.le_succ _) (hold l o hl ho')
      ·have hl2:l<c.H.length+1:=by
        have:=(List.getElem?_eq_some_iff.1 ho').1
        rwa [keepG_len hN] at this
       have e2:l=c.H.length:=by omega
       subst e2
       rw [keepG_at hN] at ho'
       cases ho'
       simp only [AO.lt]
       exact ltL_mono (Nat.zero_le _) xs hlx
    ·exact fin_wide hbc h
   ·exact fin_wide hbc h
  ·exact fin_done hbc h
 ·exact fin_done hbc h
theorem fin_n {base:Nat} {d:Done} {fr:Frame} {u:Up} {m:FrameMode} {pan:Option (AV×Bool)} {V:Value} (k r:Bool) (hbc:HB base c.H) (h:Fin P B c.H.length c.H.length c d fr u m pan V):Fin P B c.H.length base c (finN k r c.H.length d) fr u m pan V:=by
 cases k
 ·cases r
  ·exact fin_done hbc h
  ·exact fin_g hbc h
 ·exact fin_wide hbc h
end
end Go.Ab
