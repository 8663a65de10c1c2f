/- Calls: the evaluator's are the machine's. -/
import Derived.Test.YtjhnlfgleicnjaaGreatC5
namespace Go.Ab
set_option linter.unusedSimpArgs false
set_option linter.unusedVariables false
section
variable {C:Cfg} {P:Program} {B:Nat} {F:FI} {c:Cx} {tm:Array Value}
theorem ofArgs_get:∀ (args:List AV) (i k:Nat),(Env.ofArgs i args).get k=if i≤k∧k<i+args.length then args.getD (k-i) .undef else .undef
 | [],i,k=>by
  simp only [Env.ofArgs,Env.get,List.length_nil]
  rw [if_neg (by omega)]
 | v::r,i,k=>by
  simp only [Env.ofArgs,Env.get,ofArgs_get r (i+1) k,List.length_cons]
  by_cases h:i=k
  ·subst h
   rw [if_pos rfl,if_pos (by omega)]
   simp
  ·rw [if_neg h]
   by_cases h2:i+1≤k∧k<i+1+r.length
   ·rw [if_pos h2,if_pos (by omega)]
    obtain ⟨j,rfl⟩:∃ j,k=i+1+j:=⟨k-(i+1),by omega⟩
    rw [show i+1+j-(i+1)=j by omega,show i+1+j-i=j+1 by omega]
    simp
   ·rw [if_neg h2,if_neg (by omega)]
theorem args_env {args:List AV} {vs:List Value} (r:RelL c args vs) (n:Nat):zBc c (Env.ofArgs 0 args) (vs.toArray++Array.replicate n Go.undef):=by
 intro k
 rw [ofArgs_get]
 split
 ·rename_i h
  have hk:k<args.length:=by omega
  obtain ⟨y,hy,hr⟩:=RelL.get r (List.getElem?_eq_getElem hk)
  have hl:=r.length
  rw [Array.getD_eq_getD_getElem?,Array.getElem?_append_left (by simp;omega),List.getElem?_toArray,hy]
  simpa [List.getD_eq_getElem?_getD,List.getElem?_eq_getElem hk] using hr
 ·simp only [Rel]
theorem ofArgs_lt {N:Nat}:∀ (args:List AV) (i:Nat),ltL N args=true→envLt N (Env.ofArgs i args)=true
 | [],_,_=>rfl
 | v::r,i,h=>by
  simp only [ltL,Bool.and_eq_true] at h
  simp only [Env.ofArgs,envLt,Bool.and_eq_true]
  exact ⟨h.1,ofArgs_lt r (i+1) h.2⟩
theorem params_lt {N:Nat}:∀ (ts:List Tmp) (args:List AV) (e:Env),ltL N args=true→envLt N e=true→envLt N (Env.params e ts args)=true
 | [],_,_,_,he=>by simpa [Env.params] using he
 | _::_,[],_,_,he=>by simpa [Env.params] using he
 | t::ts,v::args,e,h,he=>by
  simp only [ltL,Bool.and_eq_true] at h
  simp only [Env.params]
  exact params_lt ts args _ h.2 (by simp only [envLt,Bool.and_eq_true];exact ⟨h.1,he⟩)
theorem ints_rel {c:Cx}:∀ {xs:List AV} {ys:List Value} {zs:List Int},intsOf xs=some zs→RelL c xs ys→ys=zs.map (Value.int .i64)∧xs=zs.map (.int .i64)
 | [],ys,zs,h,r=>by
  simp only [intsOf,Option.some.injEq] at h
  subst h
  simp only [RelL] at r
  exact ⟨r,rfl⟩
 | v::xs,ys,zs,h,r=>by
  simp only [RelL] at r
  obtain ⟨y,s,rfl,hy,hs⟩:=r
  unfold intsOf at h
  split at h
  ·rename_i e;cases e
  ·rename_i n r' e
   cases e
   obtain ⟨zs',h1,rfl⟩:=Option.map_eq_some_iff.1 h
   obtain ⟨e1,e2⟩:=ints_rel h1 hs
   simp only [Rel] at hy
   subst hy
   exact ⟨by rw [e1];rfl,by rw [e2];rfl⟩
  ·cases h
theorem rel_ints (c:Cx):∀ zs:List Int,RelL c (zs.map (.int .i64)) (zs.map (Value.int .i64))
 | []=>by simp only [List.map_nil,RelL]
 | z::zs=>by
  simp only [List.map_cons,RelL]
  exact ⟨_,_,rfl,by simp only [Rel],rel_ints c zs⟩
theorem flat_ints:∀ zs:List Int,flat (zs.map (Value.int .i64))=zs.map (Value.int .i64)
 | []=>rfl
 | z::zs=>by
  have:=flat_ints zs
  simp only [flat,List.map_cons,List.flatMap_cons] at this ⊢
  rw [this]
  rfl
theorem known_ints (zs:List Int):(ltL 0 (zs.map (AV.int .i64))=true)∧∀ x∈zs.map (AV.int .i64),known x=true:=by
 constructor
 ·induction zs with
  | nil=>rfl
  | cons z zs ih=>simp only [List.map_cons,ltL,ih,Bool.and_true];rfl
 ·intro x hx
  obtain ⟨z,_,rfl⟩:=List.mem_map.1 hx
  rfl
theorem adds_sim {P:Program} {B base:Nat}:∀ (os:List Obj) (c:Cx),Sim P B c→∃ c',c'.w={ c.w with heap:=c.w.heap++os.toArray }∧c'.ρ=c.ρ∧c'.H=c.H∧Sim P B c'∧Tr base c c'
 | [],c,h=>⟨c,by simp,rfl,rfl,h,Tr.refl _ _⟩
 | o::os,c,h=>by
  obtain ⟨c',h1,h2,h3,h4,h5⟩:=adds_sim (base:=base) os (c.add o) (add_sim h o)
  refine ⟨c',?_,h2,h3,h4,(add_tr o).trans h5⟩
  rw [h1]
  simp only [Cx.add]
  congr 1
  apply Array.toList_inj.1
  simp
theorem sortF_ok (ok:Ok C P) {g:FuncId} (hg:C.srt g=true) {dfd:Bool} {x:List AV} {H:Heap} {pan:Option (AV×Bool)} {d:Done} (h:sortF dfd x H pan=some d) {base:Nat} {c:Cx} {vs:List Value} {u:Up} {m:FrameMode} {V:Value}
  (hH:c.H=H) (hs:Sim P B c) (hb:HB base c.H) (hr:RelL c x vs) (hu:u.isDfd=dfd) (hm:PanM V pan m):Fin P B c.H.length base c d (Frame.enter P g vs.toArray u.kind) u m pan V:=by
 subst hH
 unfold sortF at h
 split at h
 ·rename_i l n
  split at h
  ·rename_i xs hl
   split at h
   ·rename_i zs hz
    split at h
    ·rename_i hc
     obtain ⟨e1,e2,e3⟩:=hc
     cases h
     simp only [RelL,Rel] at hr
     obtain ⟨y,s,rfl,⟨a,cap,sz,xs',rfl,hx,hn,hr⟩,rfl⟩:=hr
     rw [hl] at hx
     cases hx
     rcases hr e1 with ⟨_,k,_⟩ | ⟨b,cells,T,fr,k1,rfl,k3,k4,k5⟩
     ·exact absurd k e2
     obtain ⟨o,ho,hro⟩:=hs.obj l b k1
     rw [hl] at ho
     cases ho
     obtain ⟨ys,rest,T',g1,g2,g3,g4,g5⟩:=hro
     obtain ⟨rfl,rfl⟩:=ints_rel hz g2
     rw [flat_ints] at g1
     rw [List.length_map] at e1
     obtain ⟨⟨fn0,_,_,_⟩,hrun⟩:=ok.srt g hg
     have hlen:zs.length<1048576:=by omega
     obtain ⟨w',w1,os,fr',fn,q1,⟨q2,q3,q4,q5⟩,⟨q6,q7⟩,q8,q9,q10,q11,q12⟩:=hrun b cap zs rest T' c.w g1 hlen (u.cs m)
     have hkn:=known_ints (zs.mergeSort fun x y=>decide (x≤y))
     have hml:(zs.mergeSort fun x y=>decide (x≤y)).length=zs.length:=List.length_mergeSort ..
     have hW:Wr c b w1:={
      sys:=⟨q9.1,q9.2.1,q9.2.2⟩
      size:=q10
      others:=q11
      cells:=fun cs T2 fr2 hcs=>by
       rw [g1] at hcs
       cases hcs
       exact ⟨_,_,q12,by simp [hml]⟩ }
     have hK:Kind (.grow 1 (zs.map (AV.int .i64))) (.grow 1 ((zs.mergeSort fun x y=>decide (x≤y)).map (AV.int .i64))):=by simp [Kind,hml]
     have hR:RelO P (c.wr w1 l (.grow 1 ((zs.mergeSort fun x y=>decide (x≤y)).map (AV.int .i64)))) b (.grow 1 ((zs.mergeSort fun x y=>decide (x≤y)).map (AV.int .i64))):=by
      refine ⟨(zs.mergeSort fun x y=>decide (x≤y)).map (Value.int .i64),rest,T',?_,rel_ints _ _,?_,hkn.1,hkn.2⟩
      ·rw [flat_ints];exact q12
      ·intro y hy
       obtain ⟨z,_,rfl⟩:=List.mem_map.1 hy
       rfl
     have s1:=wr_sim hs k1 hl hW hK hR
     have t1:=wr_tr (base:=base) k1 hl hW hK (fun N _ _ _=>hkn.1)
     have b1:=set_hb (a:=.grow 1 ((zs.mergeSort fun x y=>decide (x≤y)).map (AV.int .i64))) hb hl (fun _=>hkn.1) (show AO.lt c.H.length (.grow 1 ((zs.mergeSort fun x y=>decide (x≤y)).map (AV.int .i64)))=true from hkn.1)
     obtain ⟨c',r1,r2,r3,r4,r5⟩:=adds_sim (base:=base) os.toList _ s1
     have hw:c'.w=w':=by rw [r1,q8];simp [Cx.wr]
     have hcs:u.kind=.normal:=by cases u<;>first | rfl | cases hu
     rw [e1] at q1
     refine ⟨c',fr',m,w',.ret (.tuple #[]),by rw [hcs];exact q1,?_,⟨?_,?_,.inr ⟨q2,q3,hw,_,fn,rfl,by rw [q5];exact q6,q7⟩⟩,?_,?_,r4,?_,?_,hm,rfl⟩
     ·by_cases hrd:fr'.roundOf=none
      ·exact .inl ⟨hrd,q2,q3,hw,fn,by rw [q5];exact q6,q7⟩
      ·refine .inr ⟨hrd,fun cs=>?_⟩
       rw [hw]
       have q6':P.funcs[fr'.fn]? = some fn:=by rw [q5];exact q6
       simp [stepG,unwind,q2,q3,q6',q7]
     ·rw [q4,hcs];rfl
     ·rw [q5];rfl
     ·simp only [RelR,Rel,RelL];exact ⟨#[],rfl,rfl⟩
     ·rw [r3];rfl
     ·exact (t1.trans r5).below
     ·rw [r3];exact b1
    ·cases h
   ·cases h
  ·cases h
 ·cases h
theorem dedup_le:∀ zs:List Int,(dedupI zs).length≤zs.length
 | []=>Nat.le_refl _
 | [_]=>Nat.le_refl _
 | x::y::r=>by
  have:=dedup_le (y::r)
  simp only [dedupI]
  split<;>simp only [List.length_cons] at this ⊢<;>omega
def Cx.lose (c:Cx) (w':World) (l:Nat) (a:AO):Cx:=⟨w',fun k=>if k=l then none else c.ρ k,c.H.set l a⟩
theorem lose_tr {base:Nat} {P:Program} {B:Nat} {c:Cx} (h:Sim P B c) {w':World} {l b sz:Nat} {xs ys:List AV} (hl:c.ρ l=some b) (ho:c.H[l]? = some (.grow sz xs)) (hw:Wr c b w') (hn:xs.length<ys.length) (hp:ltL 0 ys=true):Tr base c (c.lose w' l (.grow sz ys)) where
 ext:={
  sys:=hw.sys
  size:=by simp only [Cx.lose];rw [hw.size];exact Nat.le_refl _
  kind:=fun l' x hx=>by
   by_cases e:l'=l
   ·subst e;rw [ho] at hx;cases hx
    exact ⟨.grow sz ys,by simp only [Cx.lose];rw [List.getElem?_set_self (List.getElem?_eq_some_iff.1 ho).1],by simp [Kind];omega⟩
   ·exact ⟨x,by simp only [Cx.lose];rw [List.getElem?_set_ne (fun h=>e h.symm)];exact hx,Kind.refl x⟩
  grow:=fun l' s us vs hx hx' hlen=>by
   by_cases e:l'=l
   ·subst e
    rw [ho] at hx;cases hx
    simp only [Cx.lose] at hx'
    rw [List.getElem?_set_self (List.getElem?_eq_some_iff.1 ho).1] at hx'
    cases hx'
    omega
   ·simp only [Cx.lose,if_neg e]
  same:=fun l' d x hx hd hng=>by
   have e:l'≠l:=by rintro rfl;rw [ho] at hx;cases hx;exact hng _ _ rfl
   simp only [Cx.lose,if_neg e];exact hd
  kept:=fun d hd hno=>⟨by
   rintro ⟨k,hk⟩
   simp only [Cx.lose] at hk
   split at hk
   ·cases hk
   ·exact hno ⟨k,hk⟩,hw.others d (fun e=>hno ⟨l,e ▸ hl⟩)⟩
  cells:=fun d cs T fr hd=>by
   by_cases e:d=b
   ·subst e;exact hw.cells cs T fr hd
   ·exact ⟨cs,fr,(hw.others d e).trans hd,rfl⟩ }
 un l' x hx hn' hng:=by
  have e:l'≠l:=by rintro rfl;rw [hl] at hn';cases hn'
  exact ⟨by simp only [Cx.lose,if_neg e];exact hn',by simp only [Cx.lose];rw [List.getElem?_set_ne (fun h=>e h.symm)];exact hx⟩
 lt l' N x x' hb hx hx' hN hl':=by
  by_cases e:l'=l
  ·subst e
   simp only [Cx.lose] at hx'
   rw [List.getElem?_set_self (List.getElem?_eq_some_iff.1 ho).1] at hx'
   cases hx'
   exact hp
  ·simp only [Cx.lose] at hx';rw [List.getElem?_set_ne (fun h=>e h.symm),hx] at hx';cases hx';exact hl'
theorem lose_sim {P:Program} {B:Nat} {c:Cx} (h:Sim P B c) {w':World} {l b sz:Nat} {xs ys:List AV} (hl:c.ρ l=some b) (ho:c.H[l]? = some (.grow sz xs)) (hw:Wr c b w') (hn:xs.length<ys.length) (hp:ltL 0 ys=true):Sim P B (c.lose w' l (.grow sz ys)) where
 obj l' d hd:=by
  simp only [Cx.lose] at hd
  split at hd
  ·cases hd
  ·rename_i e
   obtain ⟨x,hx,hr⟩:=h.obj l' d hd
   have hne:d≠b:=fun e'=>e (h.inj l' l b (e' ▸ hd) hl)
   exact ⟨x,by simp only [Cx.lose];rw [List.getElem?_set_ne (fun h=>e h.symm)];exact hx,hr.ext (lose_tr (base:=0) h hl ho hw hn hp).ext (hw.others d hne)⟩
 inj k k' d hk hk':=by
  simp only [Cx.lose] at hk hk'
  split at hk<;>split at hk'<;>first | (cases hk;done) | (cases hk';done) | exact h.inj k k' d hk hk'
 lo l' d hd:=by
  simp only [Cx.lose] at hd ⊢
  split at hd
  ·cases hd
  ·have:=h.lo l' d hd;rw [hw.size];exact this
 glob:=h.glob.ext (lose_tr (base:=0) h hl ho hw hn hp).ext
theorem compF_ok (ok:Ok C P) {g:FuncId} (hg:C.cpt g=true) {dfd:Bool} {x:List AV} {H:Heap} {pan:Option (AV×Bool)} {d:Done} (h:compF dfd x H pan=some d) {base:Nat} {c:Cx} {vs:List Value} {u:Up} {m:FrameMode} {V:Value}
  (hH:c.H=H) (hs:Sim P B c) (hb:HB base c.H) (hr:RelL c x vs) (hu:u.isDfd=dfd) (hm:PanM V pan m):Fin P B c.H.length base c d (Frame.enter P g vs.toArray u.kind) u m pan V:=by
 subst hH
 unfold compF at h
 split at h
 ·rename_i l n
  split at h
  ·rename_i xs hl
   split at h
   ·rename_i zs hz
    split at h
    ·rename_i hc
     obtain ⟨e1,e2,e3⟩:=hc
     cases h
     simp only [RelL,Rel] at hr
     obtain ⟨y,s,rfl,⟨a,cap,sz,xs',rfl,hx,hn,hr⟩,rfl⟩:=hr
     rw [hl] at hx
     cases hx
     rcases hr e1 with ⟨_,k,_⟩ | ⟨b,cells,T,fr,k1,rfl,k3,k4,k5⟩
     ·exact absurd k e2
     obtain ⟨o,ho,hro⟩:=hs.obj l b k1
     rw [hl] at ho
     cases ho
     obtain ⟨ys,rest,T',g1,g2,g3,g4,g5⟩:=hro
     obtain ⟨rfl,rfl⟩:=ints_rel hz g2
     rw [flat_ints] at g1
     rw [List.length_map] at e1
     obtain ⟨⟨fn0,_,_,_⟩,hrun⟩:=ok.cpt g hg
     have hlen:zs.length<1048576:=by omega
     obtain ⟨w',fr',fn,q1,⟨q2,q3,q4,q5⟩,⟨q6,q7⟩,q9,q10,q11,rest',q12,q13⟩:=hrun b cap zs rest T' c.w g1 hlen (by omega) (u.cs m)
     have hkn:=known_ints (dedupI zs)
     have hW:Wr c b w':={
      sys:=⟨q9.1,q9.2.1,q9.2.2⟩
      size:=q10
      others:=q11
      cells:=fun cs T2 fr2 hcs=>by
       rw [g1] at hcs
       cases hcs
       exact ⟨_,_,q13,by simp;omega⟩ }
     have hp:ltL 0 (AV.int .i64 0::zs.map (AV.int .i64))=true:=by simp only [ltL,(known_ints zs).1,Bool.and_true];rfl
     have hgt:(zs.map (AV.int .i64)).length<(AV.int .i64 0::zs.map (AV.int .i64)).length:=by simp
     have s1:=lose_sim hs k1 hl hW hgt hp
     have t1:=lose_tr (base:=base) hs k1 hl hW hgt hp
     have b1:=set_hb (a:=.grow 1 (.int .i64 0::zs.map (AV.int .i64))) hb hl (fun _=>hp) (show AO.lt c.H.length (.grow 1 (.int .i64 0::zs.map (AV.int .i64)))=true from hp)
     have hcs:u.kind=.normal:=by cases u<;>first | rfl | cases hu
     rw [e1] at q1
     refine ⟨c.lose w' l (.grow 1 (.int .i64 0::zs.map (AV.int .i64))),fr',m,w',.ret (.slice (some ⟨b,0,none⟩) (dedupI zs).length cap),by rw [hcs];exact q1,?_,⟨?_,?_,.inr ⟨q2,q3,rfl,_,fn,rfl,by rw [q5];exact q6,q7⟩⟩,?_,rfl,s1,?_,b1,hm,rfl⟩
     ·by_cases hrd:fr'.roundOf=none
      ·exact .inl ⟨hrd,q2,q3,rfl,fn,by rw [q5];exact q6,q7⟩
      ·refine .inr ⟨hrd,fun cs=>?_⟩
       have q6':P.funcs[fr'.fn]? = some fn:=by rw [q5];exact q6
       simp [stepG,unwind,q2,q3,q6',q7,Cx.lose]
     ·rw [q4,hcs];rfl
     ·rw [q5];rfl
     ·simp only [RelR,Rel]
      have hdl:=dedup_le zs
      refine ⟨some ⟨b,0,none⟩,cap,by simp,⟨by simp,by simp;omega⟩,hkn,.inr ⟨b,0,1,(dedupI zs).map (Value.int .i64),rfl,?_,?_,rel_ints _ _,?_,?_⟩⟩
      ·simp only [Cx.lose];rw [q10];exact (hs.lo l b k1).2
      ·rintro ⟨k,hk⟩
       simp only [Cx.lose] at hk
       split at hk
       ·cases hk
       ·rename_i hne;exact hne (hs.inj _ _ _ hk k1)
      ·intro y hy
       obtain ⟨z,_,rfl⟩:=List.mem_map.1 hy
       rfl
      ·intro k hk
       rw [flat_ints] at hk ⊢
       simp only [Cx.lose,World.cell?,q13,Nat.zero_add]
       rw [List.getElem?_toArray,List.getElem?_append_left hk]
       try rfl
     ·exact t1.below
    ·cases h
   ·cases h
  ·cases h
 ·cases h
theorem callF_inv {n:Nat} {dfd:Bool} {g:FuncId} {x:List AV} {H:Heap} {pan:Option (AV×Bool)} {d:Done} (ok:Ok C P) (h:callF C P n dfd g x H pan=some d):∃ fn b,P.funcs[g]? = some fn∧fn.name ≠ "runtime.NumGoroutine" ∧ fn.body=some b:=by
 cases n with
 | zero=>simp [callF] at h
 | succ n =>
  simp only [callF] at h
  split at h
  ·split at h
   ·rename_i hg
    obtain ⟨⟨fn,h1,h2,h3⟩,_⟩:=ok.srt g hg
    obtain ⟨b,hb⟩:=Option.isSome_iff_exists.1 h3
    exact ⟨fn,b,h1,h2,hb⟩
   ·split at h
    ·rename_i hg
     obtain ⟨⟨fn,h1,h2,h3⟩,_⟩:=ok.cpt g hg
     obtain ⟨b,hb⟩:=Option.isSome_iff_exists.1 h3
     exact ⟨fn,b,h1,h2,hb⟩
    ·cases h
  ·rename_i fn hfn
   split at h
   ·cases h
   ·rename_i b hb
    obtain ⟨h1,h2,_⟩:=ok.fns _ _ hfn
    exact ⟨fn,b,h1,h2,hb⟩
theorem callF_ok (ok:Ok C P) {n:Nat} (ih:ExecOk C P B n):CallFOk C P B (n+1):=by
 intro dfd g x H pan d h base c vs u m V hH hs hb hB hr hu hm hp
 simp only [callF] at h
 split at h
 ·split at h
  ·rename_i hg
   exact sortF_ok ok hg h hH hs hb hr hu hm
  ·split at h
   ·rename_i hg
    exact compF_ok ok hg h hH hs hb hr hu hm
   ·cases h
 ·rename_i fn hfn
  split at h
  ·cases h
  ·rename_i b hbody
   split at h
   ·rename_i hl
    obtain ⟨d0,hd0,rfl⟩:=Option.map_eq_some_iff.1 h
    obtain ⟨h1,h2,h3⟩:=ok.fns _ _ hfn
    subst hH
    refine fin_n _ _ hb ?_
    have hlen:=hr.length
    have hfr:Frame.enter P g vs.toArray u.kind={ fn:=g,tmps:=vs.toArray++Array.replicate (fn.ntmps-vs.length) Go.undef,todo:=[.code b],defers:=[],mode:=.run,kind:=u.kind,roundOf:=none }:=by
     simp [Frame.enter,h1,hbody]
    rw [hfr]
    refine ih ⟨g,none,dfd,c.H.length⟩ _ _ _ hd0 c _ [] none u m V ?_ hu hm hp c.H.length (KOk.base (Nat.le_refl _))
    exact {
     hH:=rfl
     sim:=hs
     hb:=⟨Nat.le_refl _,fun l o _ ho=>hb.all l o ho,hb.all⟩
     lo:=hB
     env:=args_env hr _
     fn:=⟨fn,h1,by simp;omega,by simpa [zBn] using h3 b hbody⟩
     dfr:=by simp [RelD]
     rd:=trivial
     pan:=fun v r e=>Rel.lt _ _ (hp v r e)
     elt:=ofArgs_lt _ _ (RelL.lt _ _ hr) }
   ·cases h
theorem callB_inv {n base:Nat} {g:FuncId} {x:List AV} {H:Heap} {d:Done} (ok:Ok C P) (h:callB C P n base g x H=some d):∃ fn b,P.funcs[g]? = some fn∧fn.name ≠ "runtime.NumGoroutine" ∧ fn.body=some b:=by
 cases n with
 | zero=>simp [callB] at h
 | succ n =>
  simp only [callB] at h
  split at h
  ·cases h
  ·rename_i fn hfn
   split at h
   ·cases h
   ·rename_i b hb
    obtain ⟨h1,h2,_⟩:=ok.fns _ _ hfn
    exact ⟨fn,b,h1,h2,hb⟩
theorem callB_ok (ok:Ok C P) {n:Nat} (ih:ExecOk C P B n):CallBOk C P B (n+1):=by
 intro g x H d base h hg c vs u m V hH hs hb hB hr hu hm
 simp only [callB] at h
 split at h
 ·cases h
 ·rename_i fn hfn
  split at h
  ·cases h
  ·rename_i b hbody
   split at h
   ·rename_i hl
    obtain ⟨h1,h2,h3⟩:=ok.fns _ _ hfn
    subst hH
    have hlen:=hr.length
    have hfr:Frame.enter P g vs.toArray u.kind={ fn:=g,tmps:=vs.toArray++Array.replicate (fn.ntmps-vs.length) Go.undef,todo:=[.code b],defers:=[],mode:=.run,kind:=u.kind,roundOf:=none }:=by
     simp [Frame.enter,h1,hbody]
    rw [hfr]
    refine ih ⟨g,none,false,base⟩ _ _ _ h c _ [] none u m V ?_ hu hm (fun _ _ e=>by cases e) c.H.length ⟨.inr hg,hb.le,Nat.le_refl _⟩
    exact {
     hH:=rfl
     sim:=hs
     hb:=hb
     lo:=hB
     env:=args_env hr _
     fn:=⟨fn,h1,by simp;omega,by simpa [zBn] using h3 b hbody⟩
     dfr:=by simp [RelD]
     rd:=trivial
     pan:=fun v r e=>by cases e
     elt:=ofArgs_lt _ _ (RelL.lt _ _ hr) }
   ·cases h
theorem params_env:∀ (ts:List Tmp) {args:List AV} {vs:List Value} {e:Env} {tm:Array Value},RelL c args vs→zBc c e tm→(∀ t∈ts,t<tm.size)→args.length=ts.length →
  zBc c (Env.params e ts args) ((ts.zip vs).foldl (fun tmps (x:Tmp×Value)=>tmps.setIfInBounds x.1 x.2) tm)∧((ts.zip vs).foldl (fun tmps (x:Tmp×Value)=>tmps.setIfInBounds x.1 x.2) tm).size=tm.size
 | [],args,vs,e,tm,_,he,_,_=>by cases args<;>simpa [Env.params] using he
 | t::ts,[],vs,e,tm,_,_,_,hl=>by simp at hl
 | t::ts,v::args,vs,e,tm,r,he,ht,hl=>by
  simp only [RelL] at r
  obtain ⟨y,s,rfl,hy,hs⟩:=r
  simp only [Env.params,List.zip_cons_cons,List.foldl_cons]
  have h1:zBc c ((t,v)::e) (tm.setIfInBounds t y):=by
   have:=put_env (dst:=some t) he hy (fun d hd=>by cases hd;exact ht t (by simp))
   simpa [Env.put,putT] using this
  have:=params_env (args:=args) (vs:=s) ts hs h1 (fun t' h'=>by simpa using ht t' (by simp [h'])) (by simpa using hl)
  simpa using this
theorem extract_tail {x:Array Value} {y:Value} {s:List Value} (h:x.toList=y::s):(x.extract 1 x.size).toList=s:=by
 have hl:x.size=s.length+1:=by rw [← Array.length_toList,h];rfl
 simp [h,hl]
theorem getLoop_run {w:World} {b:Nat} {r:Loop} (h:w.heap[b]? = some (.loop r)):(Instr.getLoop b).run P w=.ok r w:=by
 simp [Instr.getLoop,getObj,Sem.run,h]
theorem callV_ok (ok:Ok C P) {n:Nat} (ihF:CallFOk C P B n) (ihB:CallBOk C P B n) (ihE:ExecOk C P B n) (ihK:RootOk C P B n) (dfd:Bool) (f:Fn) (x k:List AV) (H:Heap) (pan:Option (AV×Bool)) (d:Done) (base:Nat) (h:zAx C P (n+1) base dfd f x k H pan=some d)
  (c:Cx) (t:Deferred) (u:Up) (m:FrameMode) (V:Value) (hH:c.H=H) (hs:Sim P B c) (hb:HB base c.H) (hB:B≤c.w.heap.size) (hr:RelT c f x k t) (hu:u.isDfd=dfd) (hm:PanM V pan m) (hp:Pans c V pan) (hpn:dfd=false→pan=none) :
  ∃ nx fr,(invoke t.target t.args).run P c.w=.ok nx c.w∧Entry P nx u.kind fr∧Fin P B c.H.length base c d fr u m pan V:=by
 obtain ⟨g,k',htg,hf,hx,hk⟩:=hr
 rw [htg]
 have enter:∀ {g0:FuncId} {x0:List AV} {vs:Array Value},callF C P n dfd g0 x0 H pan=some d→RelL c x0 vs.toList→∃ fr,Entry P (.enter g0 vs) u.kind fr∧Fin P B c.H.length base c d fr u m pan V:=by
  intro g0 x0 vs h0 hr0
  exact ⟨_,.inl ⟨_,_,rfl,rfl⟩,by simpa using ihF _ _ _ _ _ _ h0 base c vs.toList u m V hH hs hb hB hr0 hu hm hp⟩
 have facts:∀ {g0:FuncId} {x0:List AV},callF C P n dfd g0 x0 H pan=some d→∃ fn:Func,P.funcs[g0]? = some fn∧fn.name ≠ "runtime.NumGoroutine" ∧ fn.body.isSome=true:=by
  intro g0 x0 h0
  obtain ⟨fn,b,h1,h2,h3⟩:=callF_inv ok h0
  exact ⟨fn,h1,h2,by rw [h3];rfl⟩
 cases f with
 | func g0 =>
  simp only [RelFn] at hf
  subst hf
  simp only [zAx] at h
  split at h
  ·rename_i hg
   split at h
   ·cases h
   ·rename_i hdf
    have hdf:dfd=false:=by simpa using hdf
    obtain ⟨fn,b,h1,h2,h3⟩:=callB_inv ok h
    have hpn:=hpn hdf
    subst hpn
    exact ⟨_,_,by simp only [invoke];exact callFunc_run h1 h2 (by rw [h3];rfl) _ _,.inl ⟨_,_,rfl,rfl⟩,ihB _ _ _ _ _ h hg c (t.args++k').toList u m V hH hs hb hB (by simpa using hx.append hk) (hu.trans hdf) hm⟩
  split at h
  ·split at h
   ·cases h
   ·rename_i hdf
    have hdf:dfd=false:=by simpa using hdf
    have hpn:=hpn hdf
    subst hpn
    obtain ⟨⟨fn,h1,h2,h3⟩,h4⟩:=ihK _ _ _ _ (pickD_some h)
    exact ⟨_,_,by simp only [invoke];exact callFunc_run h1 h2 h3 _ _,.inl ⟨_,_,rfl,rfl⟩,h4 base c (t.args++k').toList u m V hH hs hb hB (by simpa using hx.append hk) (hu.trans hdf) hm⟩
  obtain ⟨fn,h1,h2,h3⟩:=facts h
  obtain ⟨fr,h4,h5⟩:=enter (vs:=t.args++k') h (by simpa using hx.append hk)
  exact ⟨_,fr,by simp only [invoke];exact callFunc_run h1 h2 h3 _ _,h4,h5⟩
 | method name =>
  simp only [RelFn] at hf
  subst hf
  simp only [zAx] at h
  split at h
  ·rename_i ty v rest
   split at h
   ·rename_i g0 hg
    obtain ⟨fn,h1,h2,h3⟩:=facts h
    simp only [RelL] at hx
    obtain ⟨y,s,hts,hy,hrest⟩:=hx
    simp only [Rel] at hy
    obtain ⟨z,rfl,hz⟩:=hy
    have e0:t.args[0]? = some (.iface ty z):=by rw [← Array.getElem?_toList,hts];rfl
    have e1:=extract_tail hts
    obtain ⟨fr,h4,h5⟩:=enter (vs:=#[z]++t.args.extract 1 t.args.size) h (by
     rw [Array.toList_append,e1]
     simp only [List.cons_append,List.nil_append,RelL]
     exact ⟨z,s,rfl,hz,hrest⟩)
    refine ⟨_,fr,?_,h4,h5⟩
    simp only [invoke,e0]
    exact callMethod_run ok hg h1 h2 h3 _ _ _
   ·cases h
  ·cases h
 | methodOf ty name =>
  simp only [RelFn] at hf
  subst hf
  simp only [zAx] at h
  split at h
  ·rename_i v rest
   simp only [RelL] at hx
   obtain ⟨y,s,hts,hy,hrest⟩:=hx
   have e0:t.args[0]? = some y:=by rw [← Array.getElem?_toList,hts];rfl
   have e1:=extract_tail hts
   split at h
   ·rename_i yt hty
    obtain ⟨_,ud,_,hud,hdd,_⟩:=zBq (ok.ty _ _ hty)
    have plain:(∀ ms,ud≠.interface ms)→∀ {g0:FuncId},C.meth ty name=some g0→callF C P n dfd g0 (v::rest) H pan=some d →
      ∃ nx fr,(invoke (.fn (.methodOf ty name) k') t.args).run P c.w=.ok nx c.w∧Entry P nx u.kind fr∧Fin P B c.H.length base c d fr u m pan V:=by
     intro hni g0 hg h0
     obtain ⟨fn,h1,h2,h3⟩:=facts h0
     obtain ⟨fr,h4,h5⟩:=enter (vs:=#[y]++t.args.extract 1 t.args.size) h0 (by
      rw [Array.toList_append,e1]
      simp only [List.cons_append,List.nil_append,RelL]
      exact ⟨y,s,rfl,hy,hrest⟩)
     refine ⟨_,fr,?_,h4,h5⟩
     simp only [invoke,e0,Sem.run_bind,zA9 hud,Result.andThen_ok]
     cases ud<;>first | (exact absurd rfl (hni _)) | exact callMethod_run ok hg h1 h2 h3 _ _ _
    split at h
    ·rename_i hd
     split at h
     ·rename_i t' v'
      split at h
      ·rename_i g0 hg
       obtain ⟨fn,h1,h2,h3⟩:=facts h
       simp only [Rel] at hy
       obtain ⟨z,rfl,hz⟩:=hy
       rw [hd] at hdd
       obtain ⟨ms,rfl⟩:∃ ms,ud=.interface ms:=by
        cases ud<;>simp only [tyDesc] at hdd<;>first | (cases hdd;done) | exact ⟨_,rfl⟩
       obtain ⟨fr,h4,h5⟩:=enter (vs:=#[z]++t.args.extract 1 t.args.size) h (by
        rw [Array.toList_append,e1]
        simp only [List.cons_append,List.nil_append,RelL]
        exact ⟨z,s,rfl,hz,hrest⟩)
       refine ⟨_,fr,?_,h4,h5⟩
       simp only [invoke,e0,Sem.run_bind,zA9 hud,Result.andThen_ok]
       exact callMethod_run ok hg h1 h2 h3 _ _ _
      ·cases h
     ·cases h
    ·rename_i hd
     split at h
     ·rename_i g0 hg
      exact plain (by rintro ms rfl;exact hd hdd) hg h
     ·cases h
   ·cases h
  ·cases h
 | yield l =>
  simp only [RelFn] at hf
  obtain ⟨b,hl,⟨r,hlr⟩,rfl⟩:=hf
  simp only [zAx] at h
  split at h
  ·cases h
  ·rename_i hdf
   have hdf:dfd=false:=by simpa using hdf
   subst hH
   rw [hlr] at h
   simp only at h
   split at h
   ·rename_i hlen
    obtain ⟨d0,hd0,rfl⟩:=Option.map_eq_some_iff.1 h
    obtain ⟨o,ho,hro⟩:=hs.obj l b hl
    rw [hlr] at ho
    cases ho
    simp only [RelO] at hro
    obtain ⟨tmps,dd,g1,g2,⟨fn,g3,g4,g5,g6,g7,g8⟩,_⟩:=hro
    obtain ⟨p1,p2⟩:=params_env r.params.toList hx g2 (fun t' h'=>by rw [g4];exact g7 t' (by simpa using h')) (by simpa using hlen)
    have hpn:=hpn hdf
    subst hpn
    have hkind:u.kind=.normal:=by
     cases u with
     | plain _=>rfl
     | dfd _ _=>rw [hdf] at hu;cases hu
    refine ⟨_,_,?_,.inr ⟨b,r.fn,_,r.assign,r.body,rfl,rfl⟩,fin_done hb (ihE ⟨r.fn,some l,false,c.H.length⟩ _ _ _ hd0 c ((r.params.toList.zip t.args.toList).foldl (fun tmps (x:Tmp×Value)=>tmps.setIfInBounds x.1 x.2) tmps) [] (some b) u m V ?_ (hu.trans hdf) hm hp c.H.length (KOk.base (Nat.le_refl _)))⟩
    ·have hsz:t.args.size=r.params.size:=by
      have:=hx.length
      simp only [Array.length_toList] at this
      omega
     simp only [invoke,Instr.yield,Sem.run_bind,getLoop_run g1,Result.andThen_ok,hsz,ne_eq,not_true,if_false,Sem.run_pure]
     rw [← Array.foldl_toList,Array.toList_zip]
    ·exact {
      hH:=rfl
      sim:=hs
      hb:=⟨Nat.le_refl _,fun l o _ ho=>hb.all l o ho,hb.all⟩
      lo:=hB
      env:=p1
      fn:=⟨fn,g3,by rw [p2,g4],by simpa [zBn] using ⟨g5,g6⟩⟩
      dfr:=by simp [RelD]
      rd:=⟨hl,(List.getElem?_eq_some_iff.1 hlr).1,_,hlr⟩
      pan:=fun v r e=>by cases e
      elt:=params_lt _ _ _ (RelL.lt _ _ hx) (by have:=hb.all l _ hlr;simp only [AO.lt,Bool.and_eq_true] at this;exact this.1) }
   ·cases h
 | via t0 path f0 p0=>simp [zAx] at h
end
end Go.Ab
