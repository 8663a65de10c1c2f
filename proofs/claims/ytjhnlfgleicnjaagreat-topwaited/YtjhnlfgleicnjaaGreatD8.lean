/- The evaluator is sound. -/
import Derived.Test.YtjhnlfgleicnjaaGreatD7
namespace Go.Ab
set_option linter.unusedSimpArgs false
set_option linter.unusedVariables false
section
variable {C:Cfg} {P:Program} {B:Nat} {F:FI} {c:Cx}
def cntA (l:List Oper) (j:Nat):Nat:=(l.take j).countP fun o=>zAk o.op
theorem phantoms_get:∀ (l:List Oper) (ph:Heap),zAt C l=some ph→∀ (j:Nat) (o:Oper),l[j]? = some o→zAk o.op=true→∃ z,PhOk C o.op z∧ph[cntA l j]? = some z
 | [],_,_,_,_,h,_=>by simp at h
 | x::l,ph,h,j,o,ho,hal=>by
  have key:∀ (y:AO) (ph':Heap),zAk x.op=true→PhOk C x.op y→zAt C l=some ph'→ph=y::ph'→∃ z,PhOk C o.op z∧ph[cntA (x::l) j]? = some z:=by
   intro y ph' hx hy h1 he
   subst he
   cases j with
   | zero=>simp at ho;subst ho;exact ⟨y,hy,by simp [cntA]⟩
   | succ j =>
    obtain ⟨z,q1,q2⟩:=phantoms_get l ph' h1 j o (by simpa using ho) hal
    refine ⟨z,q1,?_⟩
    have:cntA (x::l) (j+1)=cntA l j+1:=by
     simp only [cntA,List.take_succ_cons,List.countP_cons]
     rw [hx];simp
    rw [this]
    simpa using q2
  simp only [zAt] at h
  split at h
  ·rename_i t hx
   split at h
   ·rename_i ty hty
    split at h
    ·rename_i hz
     obtain ⟨ph',h1,h2⟩:=Option.map_eq_some_iff.1 h
     exact key _ ph' (by rw [hx];rfl) (.inl ⟨t,ty,hx,hty,hz,rfl⟩) h1 h2.symm
    ·cases h
   ·cases h
  ·rename_i t hx
   split at h
   ·obtain ⟨ph',h1,h2⟩:=Option.map_eq_some_iff.1 h
    exact key _ ph' (by rw [hx];rfl) (.inr ⟨t,_,hx,rfl⟩) h1 h2.symm
   ·cases h
  ·rename_i hx hx2
   have hna:zAk x.op=false:=by
    cases hop:x.op<;>first | rfl | exact absurd hop (hx _) | (rename_i t r;cases r with | none=>exact absurd hop (hx2 _) | some _=>rfl)
   cases j with
   | zero=>simp at ho;subst ho;rw [hna] at hal;cases hal
   | succ j =>
    obtain ⟨z,q1,q2⟩:=phantoms_get l ph h j o (by simpa using ho) hal
    refine ⟨z,q1,?_⟩
    have:cntA (x::l) (j+1)=cntA l j:=by
     simp only [cntA,List.take_succ_cons,List.countP_cons]
     rw [hna];simp
    rw [this]
    exact q2
theorem phantoms_box:∀ (l:List Oper) (ph:Heap),zAt C l=some ph→∀ o∈ph,∃ op,PhOk C op o
 | [],_,h,o,ho=>by simp only [zAt,Option.some.injEq] at h;subst h;simp at ho
 | x::l,ph,h,o,ho=>by
  simp only [zAt] at h
  split at h
  ·rename_i t hx
   split at h
   ·rename_i ty hty
    split at h
    ·rename_i hz
     obtain ⟨ph',h1,rfl⟩:=Option.map_eq_some_iff.1 h
     rcases List.mem_cons.1 ho with rfl | ho
     ·exact ⟨x.op,.inl ⟨t,ty,hx,hty,hz,rfl⟩⟩
     ·exact phantoms_box l ph' h1 o ho
    ·cases h
   ·cases h
  ·rename_i t hx
   split at h
   ·obtain ⟨ph',h1,rfl⟩:=Option.map_eq_some_iff.1 h
    rcases List.mem_cons.1 ho with rfl | ho
    ·exact ⟨x.op,.inr ⟨t,_,hx,rfl⟩⟩
    ·exact phantoms_box l ph' h1 o ho
   ·cases h
  ·exact phantoms_box l ph h o ho
def Cx.lay (c:Cx) (ph:Heap):Cx:=⟨{ c.w with drawn:=c.w.drawn+1 },c.ρ,c.H++ph⟩
theorem lay_tr {base:Nat} (ph:Heap):Tr base c (c.lay ph) where
 ext:={
  sys:=⟨rfl,rfl,rfl⟩
  size:=Nat.le_refl _
  kind:=fun l o ho=>⟨o,by simp only [Cx.lay];rw [List.getElem?_append_left (List.getElem?_eq_some_iff.1 ho).1];exact ho,Kind.refl o⟩
  grow:=fun _ _ _ _ _ _ _=>rfl
  same:=fun _ _ _ _ h _=>h
  kept:=fun _ _ h=>⟨h,rfl⟩
  cells:=fun _ cs _ fr h=>⟨cs,fr,h,rfl⟩ }
 un l o ho hl _:=⟨hl,by simp only [Cx.lay];rw [List.getElem?_append_left (List.getElem?_eq_some_iff.1 ho).1];exact ho⟩
 lt l N o o' _ ho ho' _ h:=by
  simp only [Cx.lay] at ho'
  rw [List.getElem?_append_left (List.getElem?_eq_some_iff.1 ho).1,ho] at ho'
  cases ho';exact h
theorem lay_sim (hs:Sim P B c) {l:List Oper} {ph:Heap} (h:zAt C l=some ph):Sim P B (c.lay ph) where
 obj l b hb:=by
  obtain ⟨x,hx,hr⟩:=hs.obj l b hb
  exact ⟨x,by simp only [Cx.lay];rw [List.getElem?_append_left (List.getElem?_eq_some_iff.1 hx).1];exact hx,hr.ext (lay_tr (base:=0) ph).ext rfl⟩
 inj:=hs.inj
 lo:=hs.lo
 glob:=hs.glob.ext (lay_tr (base:=0) ph).ext
theorem lay_hb {base:Nat} {H:Heap} (hb:HB base H) {l:List Oper} {ph:Heap} (h:zAt C l=some ph):HB base (H++ph) where
 le:=by have:=hb.le;simp;omega
 old l o hl ho:=by
  have:=hb.le
  rw [List.getElem?_append_left (by omega)] at ho
  exact hb.old l o hl ho
 all l o ho:=by
  by_cases hlt:l<H.length
  ·rw [List.getElem?_append_left hlt] at ho
   exact AO.zAu (by simp) (hb.all l o ho)
  ·rw [List.getElem?_append_right (by omega)] at ho
   obtain ⟨_,⟨_,ty,_,_,hz,rfl⟩ | ⟨_,_,_,rfl⟩⟩:=phantoms_box _ _ h _ (List.mem_of_getElem? ho)
   ·exact AO.zAu (Nat.zero_le _) (show AO.lt 0 (.box ty.zv)=true from zeroOk_lt hz)
   ·rfl
theorem st_draw {tm:Array Value} {df:List Deferred} {rd:Option Nat} {u:Up} {k:List Item} {cs:List Frame} {w:World} {opl:Array Oper} {id:Nat} :
  step P (lone (frm F tm (.code (.region id opl true)::k) df .run u rd) cs w) =
   .next (lone (frm F tm (.inRegion opl (Region.schedule (P.follows .mixedOrders) opl (w.tape w.drawn (.order F.fn id)))::k) df .run u rd) cs { w with drawn:=w.drawn+1 }) :=
 step_lone_go (by simp [stepG,stepG.exec,frm,choose,Sem.run,Question.forced,Question.cut])
theorem filter_get (bad:Nat→Bool) (t:Nat):∀ e:Env,Env.get (e.filter fun x=>!bad x.1) t=if bad t then .undef else e.get t
 | []=>by simp [Env.get]
 | (a,v)::r=>by
  simp only [List.filter_cons]
  by_cases hb:bad a=true
  ·simp only [hb,Bool.not_true,Bool.false_eq_true,if_false]
   rw [filter_get bad t r]
   simp only [Env.get]
   by_cases ha:a=t
   ·subst ha;simp [hb]
   ·simp [ha]
  ·have hb:bad a=false:=by simpa using hb
   simp only [hb,Bool.not_false,if_true,Env.get]
   by_cases ha:a=t
   ·subst ha;simp [hb]
   ·simp only [if_neg ha];exact filter_get bad t r
theorem filter_lt {N:Nat} (q:Nat×AV→Bool):∀ e:Env,envLt N e=true→envLt N (e.filter q)=true
 | [],h=>h
 | (a,v)::r,h=>by
  simp only [envLt,Bool.and_eq_true] at h
  simp only [List.filter_cons]
  split
  ·simp only [envLt,Bool.and_eq_true];exact ⟨h.1,filter_lt q r h.2⟩
  ·exact filter_lt q r h.2
theorem badT_true {ps:List (Nat×Nat)} {ip d:Nat}:∀ (l:List Oper) (j i:Nat) (o:Oper),l[i]? = some o→o.dst=some d→hasPr ps (j+i) (1000+ip)=false→badT ps ip j l d=true
 | [],_,_,_,h,_,_=>by simp at h
 | x::r,j,i,o,h,hd,hn=>by
  simp only [badT,Bool.or_eq_true]
  cases i with
  | zero =>
   simp at h;subst h
   left
   rw [Nat.add_zero] at hn
   simp [hn,hd]
  | succ i =>
   right
   exact badT_true r (j+1) i o (by simpa using h) hd (by rw [show j+1+i=j+(i+1) by omega];exact hn)
theorem badT_false {ps:List (Nat×Nat)} {ip d:Nat}:∀ (l:List Oper) (j i:Nat) (o:Oper),badT ps ip j l d=false→l[i]? = some o→o.dst=some d→hasPr ps (j+i) (1000+ip)=true:=by
 intro l j i o hb ho hd
 cases h:hasPr ps (j+i) (1000+ip) with
 | true=>rfl
 | false=>rw [badT_true l j i o ho hd h] at hb;cases hb
theorem A_lt {opl:Array Oper} {ps:List (Nat×Nat)} {A:Nat→Nat→Prop} (p:Plan P opl ps A):∀ (j x:Nat),j<opl.size→A x j→x<j:=by
 intro j
 induction j using Nat.strongRecOn with
 | _ j ih =>
  intro x hj hx
  have ho:opl.toList[j]? = some opl.toList[j]:=List.getElem?_eq_getElem (by simpa using hj)
  obtain ⟨e,he,hb,hx⟩:=p.ahead j _ ho x hx
  have hlt:=p.edge j _ ho e he hb
  rcases hx with rfl | hx
  ·exact hlt
  ·have:=ih e.on hlt x (by omega) hx
   omega
theorem inv0 {s:St} {opl:Array Oper} {ph:Heap} {tm:Array Value} {df:List Deferred} {rd:Option Nat} {k:List Item} {E:Nat→Env} {Hs:Nat→Heap} {Lx:Nat→Nat} {Vv:Nat→AV} (f:FOk P B c F s tm df rd k) (hph:zAt C opl.toList=some ph)
  (g1:E 0=s.env) (g2:Hs 0=s.H++ph) (hcnt:∀ j,j≤opl.size→Lx j=s.H.length+cntA opl.toList j):DInv C P B F opl E Hs Lx Vv (fun i=>i<opl.size∧(Array.replicate opl.size false).getD i true=true) (c.lay ph) tm:=by
 have hD:(fun i=>i<opl.size∧(Array.replicate opl.size false).getD i true=true)=fun _=>False:=by
  funext i
  refine propext ⟨?_,False.elim⟩
  rintro ⟨h1,h2⟩
  rw [Array.getD_eq_getD_getElem?] at h2
  simp [h1] at h2
 rw [hD]
 refine ⟨fun _ _ _ h=>h.elim,lay_sim f.sim hph,lay_hb f.hb hph,f.lo,⟨0,Nat.zero_le _,fun _ _ _ _=>by simp,?_⟩,fun t=>⟨0,Nat.zero_le _,fun _ _ _ _=>by simp,?_⟩,fun _ _ h=>h.elim,?_⟩
 ·rw [g2];simp only [Cx.lay,f.hH]
 ·rw [g1];exact Rel.ext (lay_tr (base:=0) ph).ext _ _ (f.env t)
 ·intro j o ho hal _
  have hj:j<opl.size:=by simpa using (List.getElem?_eq_some_iff.1 ho).1
  obtain ⟨z,q1,q4⟩:=phantoms_get _ _ hph j o ho hal
  have hlx:=hcnt j (by omega)
  refine ⟨?_,z,q1,?_⟩
  ·simp only [Cx.lay]
   exact f.sim.none (by rw [hlx,f.hH];omega)
  ·simp only [Cx.lay]
   rw [f.hH,List.getElem?_append_right (by omega),hlx,show s.H.length+cntA opl.toList j-s.H.length=cntA opl.toList j by omega]
   exact q4
theorem cnt_of {s:St} {opl:Array Oper} {Lx:Nat→Nat} (g3:Lx 0=s.H.length) (gN:∀ j o,opl.toList[j]? = some o→Lx (j+1)=nextL o (Lx j)):∀ j,j≤opl.size→Lx j=s.H.length+cntA opl.toList j:=by
  intro j
  induction j with
  | zero=>intro _;rw [g3];simp [cntA]
  | succ j ih =>
   intro hj
   have ho:opl.toList[j]? = some opl.toList[j]:=List.getElem?_eq_getElem (by simp;omega)
   have q3:=gN j _ ho
   rw [q3,nextL,ih (by omega)]
   have:cntA opl.toList (j+1)=cntA opl.toList j+if zAk (opl.toList[j]).op then 1 else 0:=by
    simp only [cntA]
    rw [List.take_succ_eq_append_getElem (by simp;omega),List.countP_append]
    simp [List.countP_cons]
   rw [this]
   split<;>omega
theorem drawn_ok (ok:Ok C P) {n:Nat} (hC:∀ m,m<n→CallOk C P B m):DrawnOk C P B n:=by
 intro F id opl s r h k c tm df rd u m V f' f hu hm hp
 cases n with
 | zero=>simp [drawn] at h
 | succ n =>
  simp only [drawn] at h
  split at h
  ·rename_i ps ph hps hph
   split at h
   ·rename_i hpl
    have hp0:=plan_of hpl
    cases r with
    | ok s' =>
    obtain ⟨E,Hs,Lx,Vv,lds',efs',⟨g1,g2,g3⟩,g4,g5,g6,_,g8⟩:=dops_trace n _ 0 _ _ _ _ _ h ⟨_,rfl⟩ (by simp) (by simp)
    have T:Text C P F opl ps (fun x j=>x∈(aheads opl.toList []).getD j []) n E Hs Lx Vv (fun _=>False):=by
     refine ⟨hp0,fun j o ho _=>(g4 j o (Nat.zero_le _) ho).1,fun j o ho=>(g4 j o (Nat.zero_le _) ho).2,fun _ h=>h.elim,?_,?_⟩
     ·intro j i oj oi q hji _ hoj hoi hw hef hv hq hei
      obtain ⟨_,k2⟩:=g8 j oj (Nat.zero_le _) hoj hw
      have k3:=k2 hef hv q hq
      refine Classical.byContradiction fun hne=>?_
      have hi:i<opl.size:=by simpa using (List.getElem?_eq_some_iff.1 hoi).1
      obtain ⟨hst,_,_⟩:=g4 i oi (Nat.zero_le _) hoi
      have hwi:zAf opl.toList (E i) oi=some true:=by
       cases hst with
       | skip _ _ hH=>exact absurd (by rw [hH]) hne
       | val hw' _ _ _=>exact hw'
       | call hw' _ _ _ _ _ _ _ _=>exact hw'
      have k4:=(g8 i oi (Nat.zero_le _) hoi hwi).1 hei
      have k5:=List.all_eq_true.1 g6 (j,i) hji
      simp only [pairOk,k3,k4] at k5
      exact hne (sameAt_seen k5)
     ·rw [g3,← f.hH];exact f.hb.le
    have hcnt:=cnt_of g3 fun j o ho=>(T.next j o ho).2
    have I0:=inv0 (Vv:=Vv) f hph g1 g2 hcnt
    have hun:unl opl (Array.replicate opl.size false)≤opl.size:=by
     have:=List.countP_le_length (p:=fun i=>!(Array.replicate opl.size false).getD i true) (l:=List.range opl.size)
     simpa [unl] using this
    obtain ⟨md,t',hsch,pm⟩:=hp0.sched (c.w.tape c.w.drawn (.order F.fn id))
    obtain ⟨c',tm2,s1,z1,I1,t1,x1⟩:=go_ok (tm:=tm) (k:=k) (df:=df) (rd:=rd) (u:=u) (cs:=u.cs m) ok pm (fun m hm=>hC m (by omega)) T f' opl.size t' (Array.replicate opl.size false) (c.lay ph) tm (by simp) hun rfl I0
    have t0:=lay_tr (c:=c) (base:=F.base) ph
    have hx:=t0.ext.trans x1
    have hlen:opl.toList.length=opl.size:=Array.length_toList
    rw [hlen] at g5
    rw [g5]
    have hHs:c'.H=Hs opl.size:=by
     obtain ⟨mm,h1,h2,h3⟩:=I1.heap
     rw [h3]
     refine seg' Hs opl.size mm opl.size h1 (Nat.le_refl _) fun i hi hne=>?_
     obtain ⟨a,ha,hae,_⟩:=heap_step T hne hi
     exact h2 i a ha hae
    have henv:zBc c' (E opl.size) tm2:=by
     intro t
     obtain ⟨p,h1,h2,h3⟩:=I1.env t
     have:(E p).get t=(E opl.size).get t:=by
      refine seg' (fun i=>(E i).get t) opl.size p opl.size h1 (Nat.le_refl _) fun i hi hne=>?_
      have ha:opl.toList[i]? = some opl.toList[i]:=List.getElem?_eq_getElem (by simpa using hi)
      obtain ⟨h3,_⟩:=T.next i _ ha
      have hd:(opl.toList[i]).dst=some t:=by
       refine Classical.byContradiction fun hn=>hne ?_
       simp only [h3]
       cases hdd:(opl.toList[i]).dst with
       | none=>rfl
       | some d =>
        simp only [Env.put,Env.get]
        rw [if_neg]
        rintro rfl
        exact hn hdd
      exact h2 i _ ha hd
     rw [← this]
     exact h3
    have helt:∀ j,j≤opl.size→envLt c'.H.length (E j)=true:=by
     intro j
     induction j with
     | zero=>intro _;rw [g1];exact envLt_mono hx.len f.elt
     | succ j ih =>
      intro hj
      have ho:opl.toList[j]? = some opl.toList[j]:=List.getElem?_eq_getElem (by simp;omega)
      obtain ⟨q2,_⟩:=T.next j _ ho
      rw [q2]
      cases (opl.toList[j]).dst with
      | none=>exact ih (by omega)
      | some d =>
       simp only [Env.put,envLt,Bool.and_eq_true]
       exact ⟨I1.val j (by omega) (by omega),ih (by omega)⟩
    obtain ⟨fn,w1,w2,w3⟩:=f.fn
    refine ⟨c',tm2,df,m,.head st_draw ?_,⟨hHs,I1.sim,I1.hb,I1.lo,henv,⟨fn,w1,by rw [z1];exact w2,w3⟩,f.dfr.ext hx,f.rd.ext hx,f.pan,helt _ (Nat.le_refl _)⟩,t0.below.trans f.hb.le (t1.wk (by rw [g3,← f.hH];exact Nat.le_refl _)),hm,hp.ext hx,rfl⟩
    rw [hsch]
    exact s1
    | pan v s' =>
    obtain ⟨ip,oip,fp,x,kk,mm,H',p,E,Hs,Lx,Vv,lds',efs',⟨g1,g2,g3⟩,g4,g5,g6,g7,g8,g9,g10,g11,g12,g13,g14,g15,g16⟩:=dops_pan n _ 0 _ _ _ _ _ _ h (by simp) (by simp)
    have hips:ip<opl.size:=by simpa using (List.getElem?_eq_some_iff.1 g5).1
    have hXlt:∀ j,j<opl.size→hasPr ps j (1000+ip)=true→ip<j:=fun j hj h=>A_lt hp0 j ip hj (hp0.dead ip j h)
    have T:Text C P F opl ps (fun x j=>x∈(aheads opl.toList []).getD j []) n E Hs Lx Vv (fun j=>j=ip∨(ip<j∧hasPr ps j (1000+ip)=true)):=by
     refine ⟨hp0,fun j o ho hX=>g12 j o (Nat.zero_le _) ho hX,fun j o ho=>g13 j o (Nat.zero_le _) ho,?_,?_,?_⟩
     ·rintro j (rfl | ⟨h1,_⟩)
      ·exact g14 _ (by omega)
      ·rw [g14 _ (by omega),g14 j (by omega)]
     ·intro j i oj oi q hji hX hoj hoi hw hef hv hq hei
      obtain ⟨_,k2⟩:=g16 j oj (Nat.zero_le _) hoj hX hw
      have k3:=k2 hef hv q hq
      refine Classical.byContradiction fun hne=>?_
      have hi:i<opl.size:=by simpa using (List.getElem?_eq_some_iff.1 hoi).1
      have hXi:¬ (i=ip∨(ip<i∧hasPr ps i (1000+ip)=true)):=by
       rintro (rfl | ⟨h1,_⟩)
       ·exact hne (by rw [g14 _ (by omega)])
       ·exact hne (by rw [g14 _ (by omega),g14 i (by omega)])
      have hst:=g12 i oi (Nat.zero_le _) hoi hXi
      have hwi:zAf opl.toList (E i) oi=some true:=by
       cases hst with
       | skip _ _ hH=>exact absurd (by rw [hH]) hne
       | val hw' _ _ _=>exact hw'
       | call hw' _ _ _ _ _ _ _ _=>exact hw'
      have k4:=(g16 i oi (Nat.zero_le _) hoi hXi hwi).1 hei
      have k5:=List.all_eq_true.1 g11 (j,i) hji
      simp only [pairOk,k3,k4] at k5
      exact hne (sameAt_seen k5)
     ·rw [g3,← f.hH];exact f.hb.le
    have hcnt:=cnt_of g3 fun j o ho=>(T.next j o ho).2
    have I0:=inv0 (Vv:=Vv) f hph g1 g2 hcnt
    have hun:unl opl (Array.replicate opl.size false)≤opl.size:=by
     have:=List.countP_le_length (p:=fun i=>!(Array.replicate opl.size false).getD i true) (l:=List.range opl.size)
     simpa [unl] using this
    obtain ⟨md,t',hsch,pm⟩:=hp0.sched (c.w.tape c.w.drawn (.order F.fn id))
    obtain ⟨c',tm2,todo,W,s1,z1,q1,q2,q3,q4,t1,x1,q5,q6⟩:=go_pan (tm:=tm) (k:=k) (df:=df) (rd:=rd) (u:=u) (cs:=u.cs m) ok pm (fun m hm=>hC m (by omega)) T f' g5 g6 g7 g8 g9
     (fun j hX=>hX.imp (fun h=>h) fun h=>hp0.dead ip j h.2) opl.size t' (Array.replicate opl.size false) (c.lay ph) tm (by simp) hun rfl (by rw [Array.getD_eq_getD_getElem?];simp [hips]) I0
    have t0:=lay_tr (c:=c) (base:=F.base) ph
    have hx:=t0.ext.trans x1
    have hpe:∀ j,j≤ip→panEnv ps ip opl.toList (E j)=panEnv ps ip opl.toList (E 0):=by
     intro j
     induction j with
     | zero=>intro _;rfl
     | succ j ih =>
      intro hj
      have hjl:j<opl.toList.length:=by simp;omega
      have ho:opl.toList[j]? = some (opl.toList[j]'hjl):=List.getElem?_eq_getElem hjl
      generalize opl.toList[j]'hjl=oj at ho
      obtain ⟨r1,_⟩:=T.next j _ ho
      rw [r1,← ih (by omega)]
      cases hdd:oj.dst with
      | none=>rfl
      | some d =>
       have hnp:hasPr ps j (1000+ip)=false:=by
        cases h:hasPr ps j (1000+ip) with
        | false=>rfl
        | true=>have:=hXlt j (by omega) h;omega
       have hb:=badT_true opl.toList 0 j _ ho hdd (by rw [Nat.zero_add];exact hnp)
       simp only [panEnv,Env.put,List.filter_cons,hb,Bool.not_true,Bool.false_eq_true,if_false]
    have hen:s'.env=panEnv ps ip opl.toList s.env:=by rw [g10,← g1];exact hpe ip (Nat.le_refl _)
    have henv:zBc c' s'.env tm2:=by
     intro t
     rw [hen]
     simp only [panEnv]
     rw [filter_get]
     split
     ·simp only [Rel]
     ·rename_i hb
      have hb:badT ps ip 0 opl.toList t=false:=by simpa using hb
      rw [← g1]
      refine q6 t fun j o ho hdt=>?_
      have hj:j<opl.size:=by simpa using (List.getElem?_eq_some_iff.1 ho).1
      have h1:=badT_false opl.toList 0 j o hb ho hdt
      rw [Nat.zero_add] at h1
      have h2:=hXlt j hj h1
      exact ⟨by omega,.inr ⟨h2,h1⟩⟩
    obtain ⟨fn,w1,w2,w3⟩:=f.fn
    refine ⟨c',tm2,df,m,todo,W,.head st_draw ?_,⟨by rw [q2,g10],q3,q4,q5,henv,⟨fn,w1,by rw [z1];exact w2,by simp⟩,?_,?_,?_,?_⟩,q1,t0.below.trans f.hb.le (t1.wk (by rw [g3,← f.hH];exact Nat.le_refl _)),?_,?_,?_⟩
    ·rw [hsch];exact s1
    ·rw [g10];exact f.dfr.ext hx
    ·exact f.rd.ext hx
    ·rw [g10];exact f.pan
    ·rw [hen];exact filter_lt _ _ (envLt_mono hx.len f.elt)
    ·rw [g10];exact hm
    ·rw [g10];exact hp.ext hx
    ·rw [g10]
   ·cases h
  ·cases h
theorem sound (ok:Ok C P) (n:Nat):All C P B n:=all_of ok (fun _ h=>drawn_ok ok h) n
end
end Go.Ab
