/- The evaluator's limit: what a run comes to with fuel enough. It obeys equations without fuel. -/
import Derived.Test.YtjhnlfgleicnjaaGreatE1
namespace Go.Ab
set_option linter.unusedSimpArgs false
set_option linter.unusedVariables false
noncomputable def lim {α:Type} (f:Nat→Option α):Option α :=
 open Classical in if h:∃ n,(f n).isSome=true then f h.choose else none
def Mono {α:Type} (f:Nat→Option α):Prop:=∀ n a,f n=some a→f (n+1)=some a
section
variable {α β:Type} {f g:Nat→Option α}
theorem Mono.le (h:Mono f) {n m:Nat} {a:α} (hnm:n≤m) (hn:f n=some a):f m=some a:=by
 induction hnm with
 | refl=>exact hn
 | step _ ih=>exact h _ _ ih
theorem lim_some (h:Mono f) {n:Nat} {a:α} (hn:f n=some a):lim f=some a:=by
 unfold lim
 have hx:∃ n,(f n).isSome=true:=⟨n,by simp [hn]⟩
 rw [dif_pos hx]
 have hs:=hx.choose_spec
 cases e:f hx.choose with
 | none=>rw [e] at hs;simp at hs
 | some b =>
  rcases Nat.le_total n hx.choose with hl | hl
  ·rw [h.le hl hn] at e;exact e.symm
  ·rw [h.le hl e] at hn;exact hn
theorem lim_ex {a:α} (h:lim f=some a):∃ n,f n=some a:=by
 unfold lim at h
 split at h
 ·exact ⟨_,h⟩
 ·cases h
theorem lim_none (h:∀ n,f n=none):lim f=none:=by
 unfold lim
 rw [dif_neg]
 rintro ⟨n,hn⟩
 simp [h n] at hn
theorem lim_const (a:Option α):lim (fun _=>a)=a:=by
 cases a with
 | none=>exact lim_none fun _=>rfl
 | some a=>exact lim_some (f:=fun _=>some a) (fun _ _ h=>h) (n:=0) rfl
theorem zBj (h:Mono f) (e:lim f=none) (n:Nat):f n=none:=by
 cases h':f n with
 | none=>rfl
 | some a=>rw [lim_some h h'] at e;cases e
theorem zBg (h:Mono f):lim (fun n=>f (n+1))=lim f:=by
 cases e:lim f with
 | none=>exact lim_none fun n=>zBj h e _
 | some a =>
  obtain ⟨n,hn⟩:=lim_ex e
  exact lim_some (f:=fun n=>f (n+1)) (fun n a ha=>h _ a ha) (n:=n) (h n a hn)
theorem lim_ev (ha:Mono f) (hb:Mono g) (n0:Nat) (h:∀ n,n0≤n→f n=g n):lim f=lim g:=by
 cases e:lim g with
 | none =>
  refine lim_none fun n=>?_
  cases e2:f n with
  | none=>rfl
  | some a =>
   have h1:=ha.le (Nat.le_max_left n n0) e2
   rw [h _ (Nat.le_max_right n n0),zBj hb e] at h1
   cases h1
 | some a =>
  obtain ⟨n,hn⟩:=lim_ex e
  have h1:=hb.le (Nat.le_max_left n n0) hn
  rw [← h _ (Nat.le_max_right n n0)] at h1
  exact lim_some ha h1
end
section
variable (C:Cfg) (P:Program)
noncomputable def zAh (F:FI) (todo:List Item) (s:St):Option Done:=lim fun n=>exec C P n F todo s
noncomputable def leaveL (F:FI) (j:Option Code) (s:St):Option Done:=lim fun n=>leave C P n F j s
noncomputable def endLoopL (F:FI) (k:List Item) (L:Nat) (s:St) (d:Done):Option Done:=lim fun n=>endLoop C P n F k L s d
noncomputable def unwL (F:FI) (m:Option (AV×Bool)) (s:St):Option Done:=lim fun n=>unw C P n F m s
noncomputable def opsL (F:FI) (all rest:List Oper) (s:St):Option RR:=lim fun n=>ops C P n F all rest s
noncomputable def drawnL (F:FI) (id:Nat) (opl:Array Oper) (s:St):Option RR:=lim fun n=>drawn C P n F id opl s
noncomputable def dopsL (F:FI) (all:List Oper) (ps:List (Nat×Nat)) (i:Nat) (rest:List Oper) (l:Nat) (s:St) (lds:Lds) (efs:Efs):Option RR:=lim fun n=>dops C P n F all ps i rest l s lds efs
noncomputable def zA8 (dfd:Bool) (g:FuncId) (args:List AV) (H:Heap) (pan:Option (AV×Bool)):Option Done:=lim fun n=>callF C P n dfd g args H pan
noncomputable def zAw (base:Nat) (dfd:Bool) (f:Fn) (args cap:List AV) (H:Heap) (pan:Option (AV×Bool)):Option Done:=lim fun n=>zAx C P n base dfd f args cap H pan
noncomputable def callBL (base:Nat) (g:FuncId) (args:List AV) (H:Heap):Option Done:=lim fun n=>callB C P n base g args H
end
section
variable {C:Cfg} {P:Program} {F:FI} {k:List Item} {s:St}
theorem zBa {todo:List Item}:Mono fun n=>exec C P n F todo s:=fun n a h=>(monoAt C P n).exec _ _ _ _ h
theorem mLeave {j:Option Code}:Mono fun n=>leave C P n F j s:=fun n a h=>(monoAt C P n).leave _ _ _ _ h
theorem mEnd {L:Nat} {d:Done}:Mono fun n=>endLoop C P n F k L s d:=fun n a h=>(monoAt C P n).endLoop _ _ _ _ _ _ h
theorem mUnw {m:Option (AV×Bool)}:Mono fun n=>unw C P n F m s:=fun n a h=>(monoAt C P n).unw _ _ _ _ h
theorem mOps {all rest:List Oper}:Mono fun n=>ops C P n F all rest s:=fun n a h=>(monoAt C P n).ops _ _ _ _ _ h
theorem mDrawn {id:Nat} {opl:Array Oper}:Mono fun n=>drawn C P n F id opl s:=fun n a h=>(monoAt C P n).drawn _ _ _ _ _ h
theorem mDops {all rest:List Oper} {ps:List (Nat×Nat)} {i l:Nat} {lds:Lds} {efs:Efs}:Mono fun n=>dops C P n F all ps i rest l s lds efs:=fun n a h=>(monoAt C P n).dops _ _ _ _ _ _ _ _ _ _ h
theorem mCallF {dfd:Bool} {g:FuncId} {args:List AV} {H:Heap} {pan:Option (AV×Bool)}:Mono fun n=>callF C P n dfd g args H pan:=fun n a h=>(monoAt C P n).callF _ _ _ _ _ _ h
theorem zBp {base:Nat} {dfd:Bool} {f:Fn} {args cap:List AV} {H:Heap} {pan:Option (AV×Bool)}:Mono fun n=>zAx C P n base dfd f args cap H pan:=fun n a h=>(monoAt C P n).zAx _ _ _ _ _ _ _ _ h
theorem unS {α:Type} {f g:Nat→Option α} (hf:Mono f) (h:∀ n,f (n+1)=g n):lim f=lim g:=by
 rw [← zBg hf]
 exact congrArg lim (funext h)
theorem unN {α:Type} {f:Nat→Option α} (hf:Mono f) (h:∀ n,f (n+1)=none):lim f=none:=by
 rw [unS hf h]
 exact lim_const _
theorem execL_nil:zAh C P F [] s=leaveL C P F none s:=unS zBa fun n=>by simp only [exec]
theorem execL_ret:zAh C P F (.code .ret::k) s=leaveL C P F (some .ret) s:=unS zBa fun n=>by simp only [exec]
theorem execL_skip:zAh C P F (.code .skip::k) s=zAh C P F k s:=unS zBa fun n=>by simp only [exec]
theorem execL_inBlock {id:Nat}:zAh C P F (.inBlock id::k) s=zAh C P F k s:=unS zBa fun n=>by simp only [exec]
theorem execL_inScope {c:Code}:zAh C P F (.inScope c::k) s=zAh C P F k s:=unS zBa fun n=>by simp only [exec]
theorem execL_label {l:Nat}:zAh C P F (.code (.label l)::k) s=zAh C P F k s:=unS zBa fun n=>by simp only [exec]
theorem execL_seq {a b:Code}:zAh C P F (.code (.seq a b)::k) s=zAh C P F (.code a::.code b::k) s:=unS zBa fun n=>by simp only [exec]
theorem execL_block {id:Nat} {b:Code}:zAh C P F (.code (.block id b)::k) s=zAh C P F (.code b::.inBlock id::k) s:=unS zBa fun n=>by simp only [exec]
theorem execL_loop {b:Code}:zAh C P F (.code (.loop b)::k) s=zAh C P F (.inLoop b::k) s:=unS zBa fun n=>by simp only [exec]
theorem zA2 {b:Code}:zAh C P F (.inLoop b::k) s=zAh C P F (.code b::.inLoop b::k) s:=unS zBa fun n=>by simp only [exec]
theorem execL_scope {b:Code}:zAh C P F (.code (.scope b)::k) s=zAh C P F (.code b::.inScope b::k) s:=unS zBa fun n=>by simp only [exec]
noncomputable def condA (v:AV) (a b:Option Done):Option Done :=
 match v with
 | .bool true=>a
 | .bool false=>b
 | _=>none
theorem execL_cond {c:Operand} {x y:Code}:zAh C P F (.code (.cond c x y)::k) s=condA (opd C s.env c) (zAh C P F (.code x::k) s) (zAh C P F (.code y::k) s):=by
 unfold condA
 split
 ·rename_i e;exact unS zBa fun n=>by simp only [exec,e]
 ·rename_i e;exact unS zBa fun n=>by simp only [exec,e]
 ·rename_i h1 h2
  refine unN zBa fun n=>?_
  simp only [exec]
theorem execL_exit {id:Nat}:zAh C P F (.code (.exit id)::k) s=match exitTo id k with
  | some k'=>zAh C P F k' s
  | none=>leaveL C P F (some (.exit id)) s:=by
 split
 ·rename_i e;exact unS zBa fun n=>by simp only [exec,e]
 ·rename_i e;exact unS zBa fun n=>by simp only [exec,e]
theorem execL_next {id:Nat} {opl:Array Oper} (hi:isNext opl.toList=true) {s1:St} (hg:gcAt C F id s=some s1) {l:List St} (hn:nextOf C opl.toList s1=some l) {d:Done} (hne:l≠[])
  (h:∀ s2∈l,(match opsL C P F opl.toList opl.toList.tail s2 with
   | some (.ok s')=>zAh C P F k s'
   | some (.pan v s')=>unwL C P F (some (v,false)) s'
   | none=>none)=some d):zAh C P F (.code (.region id opl false)::k) s=some d:=by
 have one:∀ s2∈l,∃ n,∀ m,n≤m→(match ops C P m F opl.toList opl.toList.tail s2 with
   | some (.ok s')=>exec C P m F k s'
   | some (.pan v s')=>unw C P m F (some (v,false)) s'
   | none=>none)=some d:=by
  intro s2 hs
  have:=h s2 hs
  split at this
  ·rename_i s' e
   obtain ⟨n0,h0⟩:=lim_ex e
   obtain ⟨n1,h1⟩:=lim_ex this
   refine ⟨max n0 n1,fun m hm=>?_⟩
   rw [mOps.le (by omega) h0]
   exact zBa.le (by omega) h1
  ·rename_i v s' e
   obtain ⟨n0,h0⟩:=lim_ex e
   obtain ⟨n1,h1⟩:=lim_ex this
   refine ⟨max n0 n1,fun m hm=>?_⟩
   rw [mOps.le (by omega) h0]
   exact mUnw.le (by omega) h1
  ·cases this
 have all:∀ l':List St,(∀ s2∈l',s2∈l)→∃ n,∀ s2∈l',(match ops C P n F opl.toList opl.toList.tail s2 with
   | some (.ok s')=>exec C P n F k s'
   | some (.pan v s')=>unw C P n F (some (v,false)) s'
   | none=>none)=some d:=by
  have all':∀ l':List St,(∀ s2∈l',s2∈l)→∃ n,∀ m,n≤m→∀ s2∈l',(match ops C P m F opl.toList opl.toList.tail s2 with
    | some (.ok s')=>exec C P m F k s'
    | some (.pan v s')=>unw C P m F (some (v,false)) s'
    | none=>none)=some d:=by
   intro l'
   induction l' with
   | nil=>intro _;exact ⟨0,by simp⟩
   | cons x r ih =>
    intro hx
    obtain ⟨n0,h0⟩:=ih (fun s2 hs=>hx s2 (by simp [hs]))
    obtain ⟨n1,h1⟩:=one x (hx x (by simp))
    refine ⟨max n0 n1,fun m hm s2 hs=>?_⟩
    rcases List.mem_cons.1 hs with rfl | hs
    ·exact h1 m (by omega)
    ·exact h0 m (by omega) s2 hs
  intro l' hl
  obtain ⟨n,hn⟩:=all' l' hl
  exact ⟨n,hn n (Nat.le_refl _)⟩
 obtain ⟨n,hn'⟩:=all l (fun _ h=>h)
 refine lim_some zBa (n:=n+1) ?_
 simp only [exec,hg,Bool.false_eq_true,if_false,hi,if_true,hn]
 refine oneOf_some.2 ⟨by simpa using hne,fun x hx=>?_⟩
 obtain ⟨s2,hs,rfl⟩:=List.mem_map.1 hx
 exact hn' s2 hs
theorem execL_region {id:Nat} {opl:Array Oper} (hi:isNext opl.toList=false):zAh C P F (.code (.region id opl false)::k) s=match gcAt C F id s with
  | none=>none
  | some s=>match opsL C P F opl.toList opl.toList s with
   | some (.ok s')=>zAh C P F k s'
   | some (.pan v s')=>unwL C P F (some (v,false)) s'
   | none=>none:=by
 split
 ·rename_i e;exact unN zBa fun n=>by simp only [exec,e]
 ·rename_i s1 e
  split
  ·rename_i s2 e2
   obtain ⟨n0,h0⟩:=lim_ex e2
   rw [zAh,← zBg zBa]
   exact lim_ev (fun n a h=>zBa (n+1) a h) zBa n0 fun n hn=>by simp only [exec,e,mOps.le hn h0,Bool.false_eq_true,if_false,hi]
  ·rename_i v s2 e2
   obtain ⟨n0,h0⟩:=lim_ex e2
   rw [zAh,← zBg zBa]
   exact lim_ev (fun n a h=>zBa (n+1) a h) mUnw n0 fun n hn=>by simp only [exec,e,mOps.le hn h0,Bool.false_eq_true,if_false,hi]
  ·rename_i e2
   refine unN zBa fun n=>?_
   simp only [exec,e,zBj mOps e2 n,Bool.false_eq_true,if_false,hi]
theorem execL_draw {id:Nat} {opl:Array Oper}:zAh C P F (.code (.region id opl true)::k) s=match gcAt C F id s with
  | none=>none
  | some s=>match drawnL C P F id opl s with
   | some (.ok s')=>zAh C P F k s'
   | some (.pan v s')=>unwL C P F (some (v,false)) s'
   | none=>none:=by
 split
 ·rename_i e;exact unN zBa fun n=>by simp only [exec,e]
 ·rename_i s1 e
  split
  ·rename_i s2 e2
   obtain ⟨n0,h0⟩:=lim_ex e2
   rw [zAh,← zBg zBa]
   exact lim_ev (fun n a h=>zBa (n+1) a h) zBa n0 fun n hn=>by simp only [exec,e,mDrawn.le hn h0,if_true]
  ·rename_i v s2 e2
   obtain ⟨n0,h0⟩:=lim_ex e2
   rw [zAh,← zBg zBa]
   exact lim_ev (fun n a h=>zBa (n+1) a h) mUnw n0 fun n hn=>by simp only [exec,e,mDrawn.le hn h0,if_true]
  ·rename_i e2
   refine unN zBa fun n=>?_
   simp only [exec,e,zBj mDrawn e2 n,if_true]
theorem execL_beginRound:zAh C P F (.beginRound::k) s=match F.round with
  | some l=>match s.H[l]? with
   | some (.loop r)=>if r.state=.ready then zAh C P F k { s with H:=s.H.set l (.loop { r with state:=.busy }) } else none
   | _=>none
  | none=>none:=by
 split
 ·rename_i l e
  split
  ·rename_i r e2
   split
   ·rename_i e3;exact unS zBa fun n=>by simp only [exec,e,e2,e3,if_true]
   ·rename_i e3;exact unN zBa fun n=>by simp only [exec,e,e2,e3,if_false]
  ·rename_i e2
   refine unN zBa fun n=>?_
   simp only [exec,e]
 ·rename_i e;exact unN zBa fun n=>by simp only [exec,e]
theorem execL_range {f:Operand} {ps:Array Tmp} {a b:Code}:zAh C P F (.code (.rangeFunc f ps a b)::k) s=match opd C s.env f with
  | .func fn first cap =>
   match F.round with
   | none =>
    match zAw C P F.base false fn (first++[.func (.yield (s.H.length+1)) [] []]) cap
      (s.H++[.dfr,.loop ⟨.ready,none,F.fn,s.env,ps,a,b,s.H.length⟩]) none with
    | some d=>endLoopL C P F k (s.H.length+1) { s with dfr:=.collected s.H.length::s.dfr } d
    | none=>none
   | some l0 =>
    match s.H[l0]? with
    | some (.loop r0) =>
     match zAw C P F.base false fn (first++[.func (.yield s.H.length) [] []]) cap
       (s.H++[.loop ⟨.ready,none,F.fn,s.env,ps,a,b,r0.dfr⟩]) none with
     | some d=>endLoopL C P F k s.H.length s d
     | none=>none
    | _=>none
  | _=>none:=by
 split
 ·rename_i fn first cap e
  split
  ·rename_i e2
   split
   ·rename_i d e3
    obtain ⟨n0,h0⟩:=lim_ex e3
    rw [zAh,← zBg zBa]
    exact lim_ev (fun n a h=>zBa (n+1) a h) mEnd n0 fun n hn=>by simp only [exec,e,e2,zBp.le hn h0]
   ·rename_i e3
    refine unN zBa fun n=>?_
    have:=zBj zBp e3 n
    simp only [exec,e,e2,this]
  ·rename_i l0 e2
   split
   ·rename_i r0 e4
    split
    ·rename_i d e3
     obtain ⟨n0,h0⟩:=lim_ex e3
     rw [zAh,← zBg zBa]
     exact lim_ev (fun n a h=>zBa (n+1) a h) mEnd n0 fun n hn=>by simp only [exec,e,e2,e4,zBp.le hn h0]
    ·rename_i e3
     refine unN zBa fun n=>?_
     have:=zBj zBp e3 n
     simp only [exec,e,e2,e4,this]
   ·rename_i e4
    refine unN zBa fun n=>?_
    simp only [exec,e,e2]
 ·rename_i h
  refine unN zBa fun n=>?_
  simp only [exec]
theorem leaveL_eq {j:Option Code}:leaveL C P F j s=match F.round with
  | some l=>endRound l j s
  | none=>match j with
   | none=>unwL C P F none s
   | some .ret=>unwL C P F none s
   | _=>none:=by
 split
 ·rename_i l e
  rw [leaveL,unS mLeave (g:=fun _=>endRound l j s) fun n=>by simp only [leave,e]]
  exact lim_const _
 ·rename_i e
  split
  ·exact unS mLeave fun n=>by simp only [leave,e]
  ·exact unS mLeave fun n=>by simp only [leave,e]
  ·rename_i h1 h2
   refine unN mLeave fun n=>?_
   simp only [leave,e]
theorem endLoopL_eq {L:Nat} {d:Done}:endLoopL C P F k L s d=match d.out with
  | .pan v=>unwL C P F (some (v,false)) { s with H:=d.H }
  | .ret _=>match d.H[L]? with
   | some (.loop r)=>if r.state=.busy then none else
     zAh C P F ((r.pending.map Item.code).toList++k) { s with H:=d.H.set L (.loop { r with state:=.exhausted }) }
   | _=>none:=by
 split
 ·rename_i v e;exact unS mEnd fun n=>by simp only [endLoop,e]
 ·rename_i v e
  split
  ·rename_i r e2
   split
   ·rename_i e3;exact unN mEnd fun n=>by simp only [endLoop,e,e2,e3,if_true]
   ·rename_i e3;exact unS mEnd fun n=>by simp only [endLoop,e,e2,e3,if_false]
  ·rename_i e2
   refine unN mEnd fun n=>?_
   simp only [endLoop,e]
theorem unwL_nil {e:Env} {H:Heap} {p:Option (AV×Bool)} {m:Option (AV×Bool)}:unwL C P F m ⟨e,[],H,p⟩=match m with
   | some (v,false)=>some ⟨.pan v,H,p⟩
   | some (_,true)=>none
   | none=>match C.fns F.fn,F.round with
    | some fn,none=>match readRes C H e fn.results.toList with
     | some vs=>some ⟨.ret (packRes vs),H,p⟩
     | none=>none
    | _,_=>none:=by
 rw [unwL,← zBg mUnw]
 simp only [unw]
 exact lim_const _
theorem unwL_collected {e:Env} {H:Heap} {p:Option (AV×Bool)} {m:Option (AV×Bool)} {l:Nat} {ds:List ADefer}:unwL C P F m ⟨e,.collected l::ds,H,p⟩=match H[l]? with
   | some .dfr=>unwL C P F m ⟨e,ds,H.set l .dead,p⟩
   | _=>none:=by
 split
 ·rename_i e2;exact unS mUnw fun n=>by simp only [unw,e2]
 ·rename_i e2
  refine unN mUnw fun n=>?_
  simp only [unw]
theorem unwL_fn {e:Env} {H:Heap} {p:Option (AV×Bool)} {m:Option (AV×Bool)} {f:Fn} {a c:List AV} {ds:List ADefer}:unwL C P F m ⟨e,.fn f a c::ds,H,p⟩=match zAw C P F.base true f a c H m with
   | some ⟨.ret _,H',pan'⟩=>(match m,pan' with
    | some _,some (_,true)=>unwL C P F none ⟨e,ds,H',p⟩
    | _,_=>unwL C P F m ⟨e,ds,H',p⟩)
   | _=>none:=by
 split
 ·rename_i v H' pan' e2
  obtain ⟨n0,h0⟩:=lim_ex e2
  split
  ·rename_i e3
   rw [unwL,← zBg mUnw]
   exact lim_ev (fun n a h=>mUnw (n+1) a h) mUnw n0 fun n hn=>by simp only [unw,zBp.le hn h0]
  ·rename_i e3
   rw [unwL,← zBg mUnw]
   refine lim_ev (fun n a h=>mUnw (n+1) a h) mUnw n0 fun n hn=>?_
   simp only [unw,zBp.le hn h0]
 ·rename_i e2
  refine unN mUnw fun n=>?_
  simp only [unw]
  split
  ·rename_i e4
   exact absurd (lim_some zBp e4) (e2 _ _ _)
  ·rfl
theorem opsL_nil {all:List Oper}:opsL C P F all [] s=some (.ok s):=by
 rw [opsL,← zBg mOps]
 simp only [ops]
 exact lim_const _
theorem opsL_cons {all:List Oper} {o:Oper} {r:List Oper}:opsL C P F all (o::r) s=match zAf all s.env o with
   | none=>none
   | some false=>opsL C P F all r { s with env:=s.env.put o.dst (.tup []) }
   | some true=>match evOp C P F s.H s.env o with
    | none=>none
    | some (.val v H')=>opsL C P F all r { s with env:=s.env.put o.dst v,H:=H' }
    | some (.call f a c)=>match zAw C P F.base false f a c s.H none with
     | some ⟨.ret v,H',_⟩=>opsL C P F all r { s with env:=s.env.put o.dst v,H:=H' }
     | some ⟨.pan v,H',_⟩=>some (.pan v { s with H:=H' })
     | none=>none
    | some (.pan v)=>some (.pan v s)
    | some (.dfr d)=>opsL C P F all r { s with env:=s.env.put o.dst (.tup []),dfr:=d::s.dfr }
    | some .recov=>match F.round,F.dfd,s.pan with
     | none,true,some (v,false)=>opsL C P F all r { s with env:=s.env.put o.dst v,pan:=some (v,true) }
     | none,_,_=>opsL C P F all r { s with env:=s.env.put o.dst .nilIface }
     | _,_,_=>none:=by
 split
 ·rename_i e;exact unN mOps fun n=>by simp only [ops,e]
 ·rename_i e;exact unS mOps fun n=>by simp only [ops,e]
 ·rename_i e
  split
  ·rename_i e2;exact unN mOps fun n=>by simp only [ops,e,e2]
  ·rename_i e2;exact unS mOps fun n=>by simp only [ops,e,e2]
  ·rename_i f a c e2
   split
   ·rename_i e3
    obtain ⟨n0,h0⟩:=lim_ex e3
    rw [opsL,← zBg mOps]
    exact lim_ev (fun n a h=>mOps (n+1) a h) mOps n0 fun n hn=>by simp only [ops,e,e2,zBp.le hn h0]
   ·rename_i v H' p e3
    obtain ⟨n0,h0⟩:=lim_ex e3
    rw [opsL,← zBg mOps]
    refine (lim_ev (fun n a h=>mOps (n+1) a h) (g:=fun _=>some (.pan v { s with H:=H' })) (fun _ _ h=>by exact h) n0 fun n hn=>?_).trans (lim_const _)
    simp only [ops,e,e2,zBp.le hn h0]
   ·rename_i e3
    refine unN mOps fun n=>?_
    have:=zBj zBp e3 n
    simp only [ops,e,e2,this]
  ·rename_i v e2
   rw [opsL,← zBg mOps]
   simp only [ops,e,e2]
   exact lim_const _
  ·rename_i e2;exact unS mOps fun n=>by simp only [ops,e,e2]
  ·rename_i e2
   split
   ·rename_i e3 e4 e5;exact unS mOps fun n=>by simp only [ops,e,e2,e3,e4,e5]
   ·rename_i h1 e3
    refine unS mOps fun n=>?_
    simp only [ops,e,e2,h1]
   ·rename_i h1 h2
    refine unN mOps fun n=>?_
    simp only [ops,e,e2]
theorem drawnL_eq {id:Nat} {opl:Array Oper}:drawnL C P F id opl s=match C.plan F.fn id,zAt C opl.toList with
  | some ps,some ph=>if planOk P opl ps then dopsL C P F opl.toList ps 0 opl.toList s.H.length { s with H:=s.H++ph } [] [] else none
  | _,_=>none:=by
 split
 ·rename_i ps ph e1 e2
  split
  ·rename_i e3;exact unS mDrawn fun n=>by simp only [drawn,e1,e2,e3,if_true]
  ·rename_i e3;exact unN mDrawn fun n=>by simp only [drawn,e1,e2,e3,if_false,Bool.false_eq_true]
 ·rename_i h
  refine unN mDrawn fun n=>?_
  simp only [drawn]
theorem dopsL_nil {all:List Oper} {ps:List (Nat×Nat)} {i l:Nat} {lds:Lds} {efs:Efs}:dopsL C P F all ps i [] l s lds efs=if ps.all (pairOk lds efs) then some (.ok s) else none:=by
 rw [dopsL,← zBg mDops]
 simp only [dops]
 exact lim_const _
theorem dopsL_cons {all:List Oper} {ps:List (Nat×Nat)} {i l:Nat} {lds:Lds} {efs:Efs} {o:Oper} {r:List Oper}:dopsL C P F all ps i (o::r) l s lds efs =
   match zAf all s.env o with
   | none=>none
   | some false=>dopsL C P F all ps (i+1) r (nextL o l) { s with env:=s.env.put o.dst (.tup []) } lds efs
   | some true=>match evOpD C P F s.H s.env o l with
    | some (.val v H') =>
     if zAl o.op then dopsL C P F all ps (i+1) r (nextL o l) { s with env:=s.env.put o.dst v,H:=H' } lds ((i,(s.H,H'))::efs)
     else dopsL C P F all ps (i+1) r (nextL o l) { s with env:=s.env.put o.dst v } (addLd i (zAp C s.env o.op) lds) efs
    | some (.call f a c)=>match zAw C P F.base false f a c s.H none with
     | some ⟨.ret v,H',_⟩=>dopsL C P F all ps (i+1) r (nextL o l) { s with env:=s.env.put o.dst v,H:=H' } lds ((i,(s.H,H'))::efs)
     | some ⟨.pan v,H',_⟩=>match dpan C P F all ps i s.H (i+1) r (nextL o l) (s.env.put o.dst .undef) lds with
      | some lds'=>if ps.all (pairOk lds' efs) then some (.pan v { s with env:=panEnv ps i all s.env,H:=H' }) else none
      | none=>none
     | none=>none
    | _=>none:=by
 split
 ·rename_i e;exact unN mDops fun n=>by simp only [dops,e]
 ·rename_i e;exact unS mDops fun n=>by simp only [dops,e]
 ·rename_i e
  split
  ·rename_i e2
   split
   ·rename_i e3;exact unS mDops fun n=>by simp only [dops,e,e2,e3,if_true]
   ·rename_i e3;exact unS mDops fun n=>by simp only [dops,e,e2,e3,Bool.false_eq_true,if_false]
  ·rename_i f a c e2
   split
   ·rename_i e3
    obtain ⟨n0,h0⟩:=lim_ex e3
    rw [dopsL,← zBg mDops]
    exact lim_ev (fun n a h=>mDops (n+1) a h) mDops n0 fun n hn=>by simp only [dops,e,e2,zBp.le hn h0]
   ·rename_i v H' p e3
    obtain ⟨n0,h0⟩:=lim_ex e3
    rw [dopsL,← zBg mDops]
    refine (lim_ev (fun n a h=>mDops (n+1) a h) (g:=fun _=>match dpan C P F all ps i s.H (i+1) r (nextL o l) (s.env.put o.dst .undef) lds with
      | some lds'=>if ps.all (pairOk lds' efs) then some (.pan v { s with env:=panEnv ps i all s.env,H:=H' }) else none
      | none=>none) (fun _ _ h=>by exact h) n0 fun n hn=>?_).trans (lim_const _)
    simp only [dops,e,e2,zBp.le hn h0]
    rfl
   ·rename_i e3
    refine unN mDops fun n=>?_
    have:=zBj zBp e3 n
    simp only [dops,e,e2,this]
  ·rename_i h1 h2
   refine unN mDops fun n=>?_
   simp only [dops,e]
theorem callFL_fin {dfd:Bool} {g:FuncId} {args:List AV} {H:Heap} {pan:Option (AV×Bool)} {fn:Func} {c:Code} (h1:C.fns g=some fn) (h2:fn.body=some c) (h3:args.length≤fn.ntmps) :
  zA8 C P dfd g args H pan=(zAh C P ⟨g,none,dfd,H.length⟩ [.code c] ⟨Env.ofArgs 0 args,[],H,pan⟩).map (finN (C.grow g 999999) (C.grow g 999998) H.length):=by
 cases e:zAh C P ⟨g,none,dfd,H.length⟩ [.code c] ⟨Env.ofArgs 0 args,[],H,pan⟩ with
 | none =>
  refine unN mCallF fun n=>?_
  have:=zBj zBa e n
  simp only [callF,h1,h2,h3,if_true,this,Option.map_none]
 | some d =>
  obtain ⟨n,hn⟩:=lim_ex e
  refine lim_some mCallF (n:=n+1) ?_
  simp only [callF,h1,h2,h3,if_true,hn,Option.map_some]
theorem zA1 {dfd:Bool} {g:FuncId} {args:List AV} {H:Heap} {pan:Option (AV×Bool)} {fn:Func} {c:Code} (h1:C.fns g=some fn) (h2:fn.body=some c) (h3:args.length≤fn.ntmps) (hg:C.grow g 999999=false:=by rfl) (hr:C.grow g 999998=false:=by rfl) :
  zA8 C P dfd g args H pan=(zAh C P ⟨g,none,dfd,H.length⟩ [.code c] ⟨Env.ofArgs 0 args,[],H,pan⟩).map (zAi H.length):=by
 rw [callFL_fin h1 h2 h3,hg,hr]
 rfl
noncomputable def ownK (t:Bool) (x y:Option Done):Option Done:=match t with
 | true=>x
 | false=>y
noncomputable def kXL (C:Cfg) (P:Program):KX:=⟨fun b f a c H=>zAw C P b false f a c H none,fun F id opl s=>drawnL C P F id opl s,fun F j s=>leaveL C P F j s⟩
noncomputable def rootL (C:Cfg) (P:Program) (g:FuncId) (args:List AV) (H:Heap):Option Done:=pickD fun D=>KRun C P (kXL C P) (.call g args H) (·=D)
theorem kX_le {n m:Nat} (h:n≤m):KXLe (kX C P n) (kX C P m) :=
 ⟨fun _ _ _ _ _ _ e=>zBp.le h e,fun _ _ _ _ _ e=>mDrawn.le h e,fun _ _ _ _ e=>mLeave.le h e⟩
theorem kX_lim (n:Nat):KXLe (kX C P n) (kXL C P) :=
 ⟨fun _ _ _ _ _ _ e=>lim_some zBp e,fun _ _ _ _ _ e=>lim_some mDrawn e,fun _ _ _ _ e=>lim_some mLeave e⟩
theorem stepK_at {a:KSt} (hn:zAn C P (kXL C P) a≠.none):∃ n,zAn C P (kX C P n) a=zAn C P (kXL C P) a:=by
 rcases stepK_dep (C:=C) (P:=P) a with h0 | ⟨F,j,s,h0⟩ | ⟨F,k,F',id,opl,s,h0⟩ | ⟨F,all,r,k,e,dst,df,pn,b,f,x,y,H,h0⟩
 ·exact ⟨0,h0 _ _⟩
 ·rw [h0] at hn
  cases e:(kXL C P).lv F j s with
  | none=>rw [e] at hn;exact absurd rfl hn
  | some d =>
   obtain ⟨n,hx⟩:=lim_ex e
   exact ⟨n,by rw [h0,h0,e];simp only [kX,hx]⟩
 ·rw [h0] at hn
  cases e:(kXL C P).dr F' id opl s with
  | none=>rw [e] at hn;exact absurd rfl hn
  | some d =>
   obtain ⟨n,hx⟩:=lim_ex e
   exact ⟨n,by rw [h0,h0,e];simp only [kX,hx]⟩
 ·rw [h0] at hn
  cases e:(kXL C P).cv b f x y H with
  | none=>rw [e] at hn;exact absurd rfl hn
  | some d =>
   obtain ⟨n,hx⟩:=lim_ex e
   exact ⟨n,by rw [h0,h0,e];simp only [kX,hx]⟩
theorem kGather {Q:Done→Prop}:∀ (l:List KSt),(∀ b∈l,∃ (n:Nat) (L:List Done),(∀ d∈L,Q d)∧KRun C P (kX C P n) b (·∈L))→∃ (n:Nat) (L:List Done),(∀ d∈L,Q d)∧∀ b∈l,KRun C P (kX C P n) b (·∈L)
 | [],_=>⟨0,[],by simp,by simp⟩
 | x::l,h=>by
  obtain ⟨n1,L1,h1,h2⟩:=h x (by simp)
  obtain ⟨n2,L2,h3,h4⟩:=kGather l (fun b hb=>h b (by simp [hb]))
  refine ⟨max n1 n2,L1++L2,fun d hd=>?_,fun b hb=>?_⟩
  ·rcases List.mem_append.1 hd with hd | hd
   ·exact h1 d hd
   ·exact h3 d hd
  ·rcases List.mem_cons.1 hb with rfl | hb
   ·exact kRun_imp (kRun_mono (kX_le (Nat.le_max_left _ _)) h2) fun d hd=>by simp [hd]
   ·exact kRun_imp (kRun_mono (kX_le (Nat.le_max_right _ _)) (h4 b hb)) fun d hd=>by simp [hd]
theorem kRun_at {a:KSt} {Q:Done→Prop} (h:KRun C P (kXL C P) a Q):∃ (n:Nat) (L:List Done),(∀ d∈L,Q d)∧KRun C P (kX C P n) a (·∈L):=by
 induction h with
 | @done a Q d h1 hq =>
  obtain ⟨n,hn⟩:=stepK_at (C:=C) (P:=P) (a:=a) (by rw [h1];simp)
  exact ⟨n,[d],by simpa using hq,.done (by rw [hn,h1]) (by simp)⟩
 | @alts a Q l h1 hl _ ih =>
  obtain ⟨n,hn⟩:=stepK_at (C:=C) (P:=P) (a:=a) (by rw [h1];simp)
  obtain ⟨m,L,h3,h4⟩:=kGather l ih
  have e:zAn C P (kX C P (max n m)) a=.alts l:=by rw [stepK_mono (kX_le (Nat.le_max_left n m)) (by rw [hn,h1];simp),hn,h1]
  exact ⟨max n m,L,h3,.alts e hl fun b hb=>kRun_mono (kX_le (Nat.le_max_right _ _)) (h4 b hb)⟩
 | @call a Q R b r h1 _ _ ih1 ih2 =>
  obtain ⟨n,hn⟩:=stepK_at (C:=C) (P:=P) (a:=a) (by rw [h1];simp)
  obtain ⟨m1,L1,h3,h4⟩:=ih1
  obtain ⟨m2,L2,h5,h6⟩:=kGather (L1.map r) (fun b hb=>by
   obtain ⟨d,hd,rfl⟩:=List.mem_map.1 hb
   exact ih2 d (h3 d hd))
  have e:zAn C P (kX C P (max n (max m1 m2))) a=.call b r:=by rw [stepK_mono (kX_le (Nat.le_max_left n (max m1 m2))) (by rw [hn,h1];simp),hn,h1]
  exact ⟨max n (max m1 m2),L2,h5,.call e (kRun_mono (kX_le (Nat.le_trans (Nat.le_max_left m1 m2) (Nat.le_max_right n _))) h4)
   fun d hd=>kRun_mono (kX_le (Nat.le_trans (Nat.le_max_right m1 m2) (Nat.le_max_right n _))) (h6 _ (List.mem_map_of_mem hd))⟩
theorem rootL_some {g:FuncId} {args:List AV} {H:Heap} {d:Done} (h:KRun C P (kXL C P) (.call g args H) (·=d)):rootL C P g args H=some d:=pickK h
theorem callVL_func {b:Nat} {dfd:Bool} {g:FuncId} {args cap:List AV} {H:Heap} {pan:Option (AV×Bool)}:zAw C P b dfd (.func g) args cap H pan =
  ownK (C.grow g 999997) (ownK dfd none (callBL C P b g (args++cap) H)) (ownK (C.grow g 999995) (ownK dfd none (rootL C P g (args++cap) H)) (zA8 C P dfd g (args++cap) H pan)):=by
 cases h:C.grow g 999997 with
 | false =>
  cases h2:C.grow g 999995 with
  | false=>exact unS zBp fun n=>by simp only [zAx,h,h2,Bool.false_eq_true,if_false]
  | true =>
   cases dfd with
   | true=>exact unN zBp fun n=>by simp only [zAx,h,h2,if_true,Bool.false_eq_true,if_false]
   | false =>
    have hs:∀ n,zAx C P (n+1) b false (.func g) args cap H pan=pickD fun D=>KRun C P (kX C P n) (.call g (args++cap) H) (·=D):=fun n=>by
     simp only [zAx,h,h2,if_true,Bool.false_eq_true,if_false]
     rfl
    change lim (fun n=>zAx C P n b false (.func g) args cap H pan)=rootL C P g (args++cap) H
    cases e:rootL C P g (args++cap) H with
    | none =>
     refine lim_none fun n=>?_
     cases n with
     | zero=>simp [zAx]
     | succ n =>
      rw [hs]
      cases e2:pickD fun D=>KRun C P (kX C P n) (.call g (args++cap) H) (·=D) with
      | none=>rfl
      | some d =>
       have:=rootL_some (kRun_mono (kX_lim n) (pickD_some e2))
       rw [e] at this
       cases this
    | some d =>
     obtain ⟨n,L,h3,h4⟩:=kRun_at (pickD_some e)
     exact lim_some zBp (n:=n+1) (by rw [hs];exact pickK (kRun_imp h4 h3))
 | true =>
  cases dfd with
  | true=>exact unN zBp fun n=>by simp only [zAx,h,if_true]
  | false=>exact unS zBp fun n=>by simp only [zAx,h,Bool.false_eq_true,if_false,if_true]
theorem callVL_method {b:Nat} {dfd:Bool} {name:String} {t:TypeId} {v:AV} {rest cap:List AV} {H:Heap} {pan:Option (AV×Bool)}:zAw C P b dfd (.method name) (.iface t v::rest) cap H pan=match C.meth t name with
  | some g=>zA8 C P dfd g (v::rest) H pan
  | none=>none:=by
 split
 ·rename_i e;exact unS zBp fun n=>by simp only [zAx,e]
 ·rename_i e;exact unN zBp fun n=>by simp only [zAx,e]
theorem callVL_yield {b l:Nat} {args cap:List AV} {H:Heap} {pan:Option (AV×Bool)}:zAw C P b false (.yield l) args cap H pan=match H[l]? with
   | some (.loop r)=>if args.length=r.params.size then
     (zAh C P ⟨r.fn,some l,false,H.length⟩ [.code r.assign,.beginRound,.code r.body] ⟨Env.params r.env r.params.toList args,[],H,none⟩).map (zAi H.length)
    else none
   | _=>none:=by
 split
 ·rename_i r e
  split
  ·rename_i h3
   cases e2:zAh C P ⟨r.fn,some l,false,H.length⟩ [.code r.assign,.beginRound,.code r.body] ⟨Env.params r.env r.params.toList args,[],H,none⟩ with
   | none =>
    refine unN zBp fun n=>?_
    have:=zBj zBa e2 n
    simp only [zAx,e,h3,if_true,this,Option.map_none,Bool.false_eq_true,if_false]
   | some d =>
    obtain ⟨n,hn⟩:=lim_ex e2
    refine lim_some zBp (n:=n+1) ?_
    simp only [zAx,e,h3,if_true,hn,Option.map_some,Bool.false_eq_true,if_false]
  ·rename_i h3
   refine unN zBp fun n=>?_
   simp only [zAx,e,h3,if_false,Bool.false_eq_true]
 ·rename_i h
  refine unN zBp fun n=>?_
  simp only [zAx,Bool.false_eq_true,if_false]
end
end Go.Ab
