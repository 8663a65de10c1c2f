/- A region that asks for an order: one operation of the machine's order. -/
import Derived.Test.YtjhnlfgleicnjaaGreatD5
namespace Go.Ab
set_option linter.unusedSimpArgs false
set_option linter.unusedVariables false
section
variable {C:Cfg} {P:Program} {B:Nat} {F:FI} {c:Cx}
variable {opl:Array Oper} {ps:List (Nat×Nat)} {A:Nat→Nat→Prop} {n:Nat} {E:Nat→Env} {Hs:Nat→Heap} {Lx:Nat→Nat} {V:Nat→AV} {D:Nat→Prop} {tm:Array Value} {X:Nat→Prop}
variable {df:List Deferred} {rd:Option Nat} {u:Up} {k:List Item} {cs:List Frame}
theorem keepEnv_mem (e:Env):∀ (L:List Nat) (x:Nat),x∈L→(zB3 e L).get x=e.get x
 | [],_,h=>by simp at h
 | y::r,x,h=>by
  simp only [zB3,Env.get]
  split
  ·rename_i hy;rw [hy]
  ·rename_i hy
   exact keepEnv_mem e r x ((List.mem_cons.1 h).resolve_left fun e=>hy e.symm)
theorem keepEnv_not (e:Env):∀ (L:List Nat) (x:Nat),x ∉ L→(zB3 e L).get x=.undef
 | [],_,_=>rfl
 | y::r,x,h=>by
  simp only [List.mem_cons,not_or] at h
  simp only [zB3,Env.get]
  rw [if_neg (fun e=>h.1 e.symm)]
  exact keepEnv_not e r x h.2
theorem names_env (T:Text C P F opl ps A n E Hs Lx V X) (I:DInv C P B F opl E Hs Lx V D c tm) {j:Nat} {o:Oper} (ho:opl.toList[j]? = some o) (hj:¬ D j) (hr:∀ e∈o.after.toList,Region.binds .any e=true→D e.on) :
  zBc c (zB3 (E j) (zBl opl.toList o)) tm:=by
 intro t
 by_cases ht:t∈zBl opl.toList o
 ·rw [keepEnv_mem _ _ _ ht];exact name_at T I ho hj hr ht
 ·rw [keepEnv_not _ _ _ ht];simp only [Rel]
theorem opd_names {e:Env} {o:Oper}:∀ x∈o.op.operands.toList,opd C e x=opd C (zB3 e (zBl opl.toList o)) x:=by
 intro x hx
 cases x with
 | tmp t =>
  simp only [opd]
  rw [keepEnv_mem]
  simp only [zBl,List.mem_append,List.mem_filterMap]
  exact .inr (.inl ⟨.tmp t,hx,rfl⟩)
 | const _=>rfl
 | global _=>rfl
 | func _=>rfl
theorem wanted_names {e:Env} {o:Oper}:zAf opl.toList (zB3 e (zBl opl.toList o)) o=zAf opl.toList e o:=by
 unfold zAf
 split
 ·rfl
 ·rename_i j w hg
  split
  ·rename_i d hd
   rw [keepEnv_mem]
   simp only [zBl,List.mem_append]
   refine .inr (.inr ?_)
   rw [hg]
   simpa using hd
  ·rfl
theorem inv_next (T:Text C P F opl ps A n E Hs Lx V X) (I:DInv C P B F opl E Hs Lx V D c tm) {j:Nat} {o:Oper} (ho:opl.toList[j]? = some o) (hj:¬ D j) (hr:∀ e∈o.after.toList,Region.binds .any e=true→D e.on) {c':Cx} {W:Value}
  (hx:Ext c c') (hs:Sim P B c') (hb:HB F.base c'.H) (hH:zAl o.op=true→c'.H=Hs (j+1)) (hH':zAl o.op=false→c'.H=c.H) (hv:Rel c' (V j) W)
  (hph:∀ (i:Nat) (v:AO),(∀ sz xs,v≠.grow sz xs)→Lx i≠Lx j∨zAk o.op=false→c.ρ (Lx i)=none→c.H[Lx i]? = some v→c'.ρ (Lx i)=none∧c'.H[Lx i]? = some v)
  (hlx:∀ (i:Nat) (a:Oper),opl.toList[i]? = some a→zAk a.op=true→zAk o.op=true→i≠j→Lx i≠Lx j) (hd:dstOk tm.size o) :
  DInv C P B F opl E Hs Lx V (fun i=>i=j∨D i) c' (putT tm o.dst W):=by
 have hjs:j<opl.size:=by simpa using (List.getElem?_eq_some_iff.1 ho).1
 refine ⟨?_,hs,hb,Nat.le_trans I.lo hx.size,?_,?_,?_,?_⟩
 ·rintro i a ha (rfl | hDi) e he hbd
  ·rw [ho] at ha;cases ha
   exact .inr (hr e he hbd)
  ·exact .inr (I.closed i a ha hDi e he hbd)
 ·cases hef:zAl o.op with
  | true =>
   refine ⟨j+1,by omega,fun i a ha hae=>?_,hH hef⟩
   by_cases hij:i=j
   ·subst hij;simp
   ·have:=order_of T I ho hj hr ha hij (by
     rintro x y (⟨rfl,rfl⟩ | ⟨rfl,rfl⟩) ⟨h,_⟩
     ·exact h ⟨hae,hef⟩
     ·exact h ⟨hef,hae⟩)
    constructor
    ·intro h;exact .inr (this.2 (by omega))
    ·rintro (h | h)
     ·exact absurd h hij
     ·have:=this.1 h;omega
  | false =>
   obtain ⟨m,hm,h1,h2⟩:=I.heap
   refine ⟨m,hm,fun i a ha hae=>?_,(hH' hef).trans h2⟩
   rw [h1 i a ha hae]
   constructor
   ·exact .inr
   ·rintro (rfl | h)
    ·rw [ho] at ha;cases ha;rw [hef] at hae;cases hae
    ·exact h
 ·intro t
  by_cases ht:o.dst=some t
  ·refine ⟨j+1,by omega,fun i a ha had=>?_,?_⟩
   ·by_cases hij:i=j
    ·subst hij;simp
    ·have htn:t∈zBl opl.toList o:=by simp [zBl,ht]
     have htn':t∈zBl opl.toList a:=by simp [zBl,had]
     have:=order_of T I ho hj hr ha hij (by
      rintro x y (⟨rfl,rfl⟩ | ⟨rfl,rfl⟩) ⟨_,h4,_⟩
      ·exact h4 t had htn
      ·exact h4 t ht htn')
     constructor
     ·intro h;exact .inr (this.2 (by omega))
     ·rintro (h | h)
      ·exact absurd h hij
      ·have:=this.1 h;omega
   ·obtain ⟨h3,_⟩:=T.next j o ho
    rw [h3,ht]
    have:=hd t ht
    simp only [Env.put,Env.get,if_pos,putT]
    rw [Array.getD_eq_getD_getElem?,Array.getElem?_setIfInBounds_self_of_lt this]
    exact hv
  ·obtain ⟨p,hp,h1,h2⟩:=I.env t
   refine ⟨p,hp,fun i a ha had=>?_,?_⟩
   ·rw [h1 i a ha had]
    constructor
    ·exact .inr
    ·rintro (rfl | h)
     ·rw [ho] at ha;cases ha;exact absurd had ht
     ·exact h
   ·have:(putT tm o.dst W).getD t Go.undef=tm.getD t Go.undef:=by
     cases hdd:o.dst with
     | none=>rfl
     | some d =>
      have hne:d≠t:=by rintro rfl;exact ht hdd
      simp only [putT,Array.getD_eq_getD_getElem?]
      rw [Array.getElem?_setIfInBounds_ne hne]
    rw [this]
    exact Rel.ext hx _ _ h2
 ·rintro i hi (rfl | hD)
  ·exact Rel.lt _ _ hv
  ·exact zAu hx.len _ (I.val i hi hD)
 ·intro i a ha hal hnD
  simp only [not_or] at hnD
  obtain ⟨h1,x,h2,h5⟩:=I.ph i a ha hal hnD.2
  have hne:Lx i≠Lx j∨zAk o.op=false:=by
   cases hao:zAk o.op with
   | true=>exact .inl (hlx i a ha hal hao hnD.1)
   | false=>exact .inr rfl
  obtain ⟨h6,h7⟩:=hph i _ h2.ng hne h1 h5
  exact ⟨h6,x,h2,h7⟩
theorem lx_mono (T:Text C P F opl ps A n E Hs Lx V X):∀ (d i:Nat),i+d≤opl.size→Lx i≤Lx (i+d)
 | 0,i,_=>Nat.le_refl _
 | d+1,i,h=>by
  have h1:=lx_mono T d i (by omega)
  have ha:opl.toList[i+d]? = some opl.toList[i+d]:=List.getElem?_eq_getElem (by simp;omega)
  obtain ⟨_,h3⟩:=T.next _ _ ha
  rw [← Nat.add_assoc,h3]
  unfold nextL
  split<;>omega
theorem lx_lt (T:Text C P F opl ps A n E Hs Lx V X) {i j:Nat} {a:Oper} (ha:opl.toList[i]? = some a) (hal:zAk a.op=true) (hij:i<j) (hj:j≤opl.size):Lx i<Lx j:=by
 obtain ⟨_,h3⟩:=T.next i a ha
 have:=lx_mono T (j-(i+1)) (i+1) (by omega)
 rw [show i+1+(j-(i+1))=j by omega,h3] at this
 simp only [nextL,hal,if_true] at this
 omega
theorem newVar_run (T:TypeId) (y:Value) (w:World):(newVar T y).run P w=.ok ⟨w.heap.size,0,none⟩ { w with heap:=w.heap.push (.cells y.cells T (0,0)) }:=by
 simp only [newVar,newRow,Sem.run_bind,run_newObj,Result.andThen_ok,Sem.run_pure]
theorem d_step (ok:Ok C P) (hC:∀ m,m<n→CallOk C P B m) (T:Text C P F opl ps A n E Hs Lx V X) (I:DInv C P B F opl E Hs Lx V D c tm) {j:Nat} {o:Oper} (ho:opl.toList[j]? = some o) (hj:¬ D j) (hX:¬ X j)
  (hr:∀ e∈o.after.toList,Region.binds .any e=true→D e.on) (hd:dstOk tm.size o) (rest:List Nat) :
  ∃ c' W,Steps P (lone (frm F tm (.inRegion opl (j::rest)::k) df .run u rd) cs c.w) (lone (frm F (putT tm o.dst W) (.inRegion opl rest::k) df .run u rd) cs c'.w) ∧
   DInv C P B F opl E Hs Lx V (fun i=>i=j∨D i) c' (putT tm o.dst W)∧TrB (Lx 0) F.base c c'∧Ext c c':=by
 have hjs:j<opl.size:=by simpa using (List.getElem?_eq_some_iff.1 ho).1
 have hoA:opl[j]? = some o:=by rw [← Array.getElem?_toList];exact ho
 have hen:=names_env T I ho hj hr
 have hlx:∀ (i:Nat) (a:Oper),opl.toList[i]? = some a→zAk a.op=true→zAk o.op=true→i≠j→Lx i≠Lx j:=by
  intro i a ha hal hao hij
  have his:i<opl.size:=by simpa using (List.getElem?_eq_some_iff.1 ha).1
  rcases Nat.lt_or_gt_of_ne hij with h | h
  ·have:=lx_lt T ha hal h (by omega);omega
  ·have:=lx_lt T ho hao h (by omega);omega
 have same:∀ {c':Cx},Tr F.base c c'→∀ (i:Nat) (v:AO),(∀ sz xs,v≠.grow sz xs)→Lx i≠Lx j∨zAk o.op=false→c.ρ (Lx i)=none→c.H[Lx i]? = some v→c'.ρ (Lx i)=none∧c'.H[Lx i]? = some v :=
  fun ht i v hg _ h1 h2=>ht.un _ _ h2 h1 hg
 have hst:=T.step j o ho hX
 cases hst with
 | skip hw hv hH =>
  have hw':=wanted_ok (by rw [wanted_names];exact hw) hen
  refine ⟨c,Go.undef,.one (step_skipop j rest hoA hw'),inv_next T I ho hj hr (Ext.refl c) I.sim I.hb ?_ (fun _=>rfl) (by rw [hv];exact undef_rel c) (same (Tr.refl _ _)) hlx hd,TrB.refl _ _ _,Ext.refl _⟩
  intro he
  rw [hH]
  exact heap_at T I ho hj hr he
 | val hw H1 h1 hH =>
  have hw':=wanted_ok (by rw [wanted_names];exact hw) hen
  cases hal:zAk o.op with
  | true =>
   obtain ⟨g1,gx,gph,g5⟩:=I.ph j o ho hal hj
   have hle:Lx 0≤Lx j:=by
    have:=lx_mono T j 0 (by omega)
    simpa using this
   have hps:∀ {ob:Obj} (i:Nat) (v:AO),(∀ sz xs,v≠.grow sz xs)→Lx i≠Lx j∨zAk o.op=false→c.ρ (Lx i)=none→c.H[Lx i]? = some v→(c.real (Lx j) ob).ρ (Lx i)=none∧(c.real (Lx j) ob).H[Lx i]? = some v:=by
    intro ob i v _ hne h1 h2
    rcases hne with hne | hne
    ·exact ⟨by simp only [Cx.real];rw [if_neg hne];exact h1,h2⟩
    ·rw [hal] at hne;cases hne
   have hng:=gph.ng
   rcases gph with ⟨t,ty,g2,g3,g4,rfl⟩ | ⟨t,kt,g2,rfl⟩
   rotate_left
   ·simp only [evOpD,g2] at h1
    simp only [Option.some.injEq,OpR.val.injEq] at h1
    obtain ⟨hV,rfl⟩:=h1
    have hef:zAl o.op=false:=by rw [g2];rfl
    have hrun:(execOp (Act.mk tm df).eval o).run P c.w=.ok (.value (.map (some c.w.heap.size))) (c.real (Lx j) (.map #[] 0)).w:=by
     simp only [execOp,g2,Option.map_none,Instr.makeMap,Sem.run_bind,run_newObj,Result.andThen_ok,Sem.run_pure,Cx.real];try rfl
    have hx:=real_ext (o:=.map #[] 0) g1 g5 hng
    refine ⟨c.real (Lx j) (.map #[] 0),.map (some c.w.heap.size),.one (step_value j rest hoA hw' (.inr (by rw [g2];simp)) hrun (.inl rfl)),inv_next T I ho hj hr hx (real_simM I.sim I.lo g1 g5) I.hb ?_ (fun _=>rfl) ?_ hps hlx hd,real_trb hle g1 g5 hng,hx⟩
    ·intro he;rw [hef] at he;cases he
    ·rw [← hV]
     simp only [Rel,Cx.real]
     exact ⟨_,by simp,⟨.map kt [],g5,rfl⟩,rfl⟩
   simp only [evOpD,g2] at h1
   simp only [Option.some.injEq,OpR.val.injEq] at h1
   obtain ⟨hV,rfl⟩:=h1
   have hty':=ok.ty _ _ g3
   obtain ⟨z,hz0,hzr,hzk,hzs,hzl⟩:=zero_rel g4
   have hef:zAl o.op=false:=by rw [g2];rfl
   have hrun:(execOp (Act.mk tm df).eval o).run P c.w=.ok (.value (.pointer (some ⟨c.w.heap.size,0,none⟩))) (c.real (Lx j) (.cells z.cells t (0,0))).w:=by
    simp only [execOp,g2,Instr.alloc,Sem.run_bind,run_zero hty' hz0,Result.andThen_ok,newVar_run,Sem.run_pure,Cx.real]
   have hx:=real_ext (o:=.cells z.cells t (0,0)) g1 g5 hng
   refine ⟨c.real (Lx j) (.cells z.cells t (0,0)),.pointer (some ⟨c.w.heap.size,0,none⟩),.one (step_value j rest hoA hw' (.inr (by rw [g2];simp)) hrun (.inl rfl)),inv_next T I ho hj hr hx (real_sim I.sim I.lo g1 g5 (hzr c) hzk (by rw [cellsOf_ty hty',hzs])) I.hb ?_ (fun _=>rfl) ?_ hps hlx hd,real_trb hle g1 g5 hng,hx⟩
   ·intro he;rw [hef] at he;cases he
   ·rw [← hV]
    simp only [Rel,Cx.real]
    exact ⟨_,by simp,⟨_,g5,rfl⟩,rfl⟩
  | false =>
   have h2:evOp C P F (Hs j) (E j) o=some (.val (V j) H1)∧(∀ x,o.op=.assign x→(C.grow F.fn (o.dst.getD 0)&&zAs (opd C (E j) x))=false)∧∀ cl,o.op=.call cl→lenMap C (E j) cl=false:=by
    unfold evOpD at h1
    split at h1
    ·rename_i t hop;rw [hop] at hal;cases hal
    ·rename_i t hop;rw [hop] at hal;cases hal
    ·rename_i x hop
     split at h1
     ·cases h1
     ·rename_i hg
      exact ⟨h1,fun y hy=>by rw [hop] at hy;cases hy;simpa using hg,fun cl hy=>by rw [hop] at hy;cases hy⟩
    ·rename_i cl hop
     split at h1
     ·cases h1
     ·rename_i hg
      exact ⟨h1,fun y hy=>(by rw [hop] at hy;cases hy),fun cl hy=>by rw [hop] at hy;cases hy;simpa using hg⟩
    ·rename_i hn1 hn2 hn3 hn4
     exact ⟨h1,fun x hx=>absurd hx (hn3 x),fun x hx=>absurd hx (hn4 x)⟩
   obtain ⟨h2,hg,hlm⟩:=h2
   have fin:∀ H2,evOp C P F c.H (E j) o=some (.val (V j) H2)→(zAl o.op=true→H2=Hs (j+1))→(zAl o.op=false→H2=c.H) →
     ∃ c' W,Steps P (lone (frm F tm (.inRegion opl (j::rest)::k) df .run u rd) cs c.w) (lone (frm F (putT tm o.dst W) (.inRegion opl rest::k) df .run u rd) cs c'.w) ∧
      DInv C P B F opl E Hs Lx V (fun i=>i=j∨D i) c' (putT tm o.dst W)∧TrB (Lx 0) F.base c c'∧Ext c c':=by
    intro H2 h3 h4 h5
    rw [evOp_congr (e':=zB3 (E j) (zBl opl.toList o)) opd_names] at h3
    obtain ⟨nx,W,w',ρ',k1,k2,k3,k4,k5,k6⟩:=evOp_val (a:=Act.mk tm df) ok I.sim I.hb I.lo hen h3
    exact ⟨⟨w',ρ',H2⟩,W,.one (step_value j rest hoA hw' (.inr (zB5 h3 (by simp))) k1 k2),inv_next T I ho hj hr k5.ext k4 k6 h4 h5 k3 (same k5) hlx hd,k5.below,k5.ext⟩
   cases hef:zAl o.op with
   | true =>
    rw [hef] at hH
    refine fin H1 ?_ (fun _=>by rw [hH];rfl) (fun h=>by rw [hef] at h;cases h)
    rw [heap_at T I ho hj hr hef]
    exact h2
   | false =>
    obtain ⟨h3,h4⟩:=evOp_local (H':=c.H) hef hal hg hlm h2 (fun q hq=>look_at T I ho hj hX hr hef hw ⟨_,_,h1⟩ hq)
    exact fin c.H h4 (fun h=>by rw [hef] at h;cases h) (fun _=>rfl)
 | call hw f x kk m p h1 hm hc =>
  have hw':=wanted_ok (by rw [wanted_names];exact hw) hen
  obtain ⟨h2,hef,hal⟩:=evOpD_call h1
  have hH:=heap_at T I ho hj hr hef
  rw [← hH] at h2 hc
  rw [evOp_congr (e':=zB3 (E j) (zBl opl.toList o)) opd_names] at h2
  obtain ⟨Df,hD,hrun⟩:=evOp_call (df:=df) ok I.sim.glob hen h2
  obtain ⟨nx,fr0,g1,g2,g3⟩:=hC m hm _ _ _ _ _ _ _ _ hc c Df (.plain (frm F tm (.inRegion opl (j::rest)::k) df .run u rd::cs)) .returning Go.undef rfl I.sim I.hb I.lo hD rfl rfl (fun _ _ e=>by cases e) (fun _=>rfl)
  have hst:=step_enter (P:=P) (u:=u) (F:=F) (df:=df) (rd:=rd) (k:=k) (cs:=cs) j rest hoA hw' (.inr (zB5 h2 (by simp))) (hrun c.w _ g1 rfl) g2
  obtain ⟨c',fr',m',wl,e',k1,k2,⟨k3,_,_⟩,k4,k5,k6,k7,k8,_,_⟩:=g3
  have hk:fr'.kind=.normal:=by
   rw [k3]
   rcases g2 with ⟨_,_,_,rfl⟩ | ⟨_,_,_,_,_,_,rfl⟩<;>rfl
  have ht:Tr F.base c c':=k7.full (Nat.le_refl _)
  cases e' with
  | pan _=>exact k4.elim
  | ret W =>
   have hret:=k2.normal hk (frm F tm (.inRegion opl (j::rest)::k) df .run u rd) cs
   rw [zBh j _ hoA] at hret
   exact ⟨c',W,.head hst (k1.trans (.one hret)),inv_next T I ho hj hr ht.ext k6 k8 (fun _=>k5) (fun h=>by rw [hef] at h;cases h) k4 (same ht) hlx hd,ht.below,ht.ext⟩
theorem p_step (ok:Ok C P) (hC:∀ m,m<n→CallOk C P B m) (T:Text C P F opl ps A n E Hs Lx V X) (I:DInv C P B F opl E Hs Lx V D c tm) {j:Nat} {o:Oper} (ho:opl.toList[j]? = some o) (hj:¬ D j)
  (hr:∀ e∈o.after.toList,Region.binds .any e=true→D e.on) (rest:List Nat) {f:Fn} {x kk:List AV} {m:Nat} {v:AV} {H':Heap} {p:Option (AV×Bool)}
  (hw:zAf opl.toList (E j) o=some true) (h1:evOpD C P F (Hs j) (E j) o (Lx j)=some (.call f x kk)) (hm:m<n) (hc:zAx C P m F.base false f x kk (Hs j) none=some ⟨.pan v,H',p⟩) :
  ∃ c' W todo,Steps P (lone (frm F tm (.inRegion opl (j::rest)::k) df .run u rd) cs c.w) (lone (frm F tm todo df (.panicking [{ v:=W,recovered:=false }]) u rd) cs c'.w) ∧
   Rel c' v W∧c'.H=H'∧Sim P B c'∧HB F.base c'.H∧TrB (Lx 0) F.base c c'∧Ext c c':=by
 have hoA:opl[j]? = some o:=by rw [← Array.getElem?_toList];exact ho
 have hen:=names_env T I ho hj hr
 have hw':=wanted_ok (by rw [wanted_names];exact hw) hen
 obtain ⟨h2,hef,hal⟩:=evOpD_call h1
 have hH:=heap_at T I ho hj hr hef
 rw [← hH] at h2 hc
 rw [evOp_congr (e':=zB3 (E j) (zBl opl.toList o)) opd_names] at h2
 obtain ⟨Df,hD,hrun⟩:=evOp_call (df:=df) ok I.sim.glob hen h2
 obtain ⟨nx,fr0,g1,g2,g3⟩:=hC m hm _ _ _ _ _ _ _ _ hc c Df (.plain (frm F tm (.inRegion opl (j::rest)::k) df .run u rd::cs)) .returning Go.undef rfl I.sim I.hb I.lo hD rfl rfl (fun _ _ e=>by cases e) (fun _=>rfl)
 have hst:=step_enter (P:=P) (u:=u) (F:=F) (df:=df) (rd:=rd) (k:=k) (cs:=cs) j rest hoA hw' (.inr (zB5 h2 (by simp))) (hrun c.w _ g1 rfl) g2
 obtain ⟨c',fr',m',wl,e',k1,k2,⟨k3,_,_⟩,k4,k5,k6,k7,k8,_,_⟩:=g3
 have hk:fr'.kind=.normal:=by
  rw [k3]
  rcases g2 with ⟨_,_,_,rfl⟩ | ⟨_,_,_,_,_,_,rfl⟩<;>rfl
 have ht:Tr F.base c c':=k7.full (Nat.le_refl _)
 cases e' with
 | ret _=>exact k4.elim
 | pan W =>
  have hret:=k2.panics (frm F tm (.inRegion opl (j::rest)::k) df .run u rd) cs
  exact ⟨c',W,_,.head hst (k1.trans (.one hret)),k4,k5,k6,k8,ht.below,ht.ext⟩
end
end Go.Ab
