/- Each operation of the abstract evaluator is one of the model: maps. -/
import Derived.Test.YtjhnlfgleicnjaaGreatB2
namespace Go.Ab
set_option linter.unusedSimpArgs false
set_option linter.unusedVariables false
section
variable {C:Cfg} {P:Program} {B base:Nat} {F:FI} {c:Cx} {e:Env} {a:Act}
theorem run_check_fields {q:Bool} {d D:Nat} (ih:∀ t ks xs,zAd P d t=some ks→fits ks xs=true→∀ w,(Instr.checkKey q D t (mkV P t xs)).run P w=.ok () w) :
  ∀ (fs:List Field) (off:Nat) (ks:List (Option IntKind)) (XS:List AV),eqFields P (zAd P d) fs off=some ks→off≤XS.length→fits ks (XS.drop off)=true →
   ∀ w,(forIn fs PUnit.unit (fun f _=>if f.name ≠ "_" then (do let x ← part f.type (XS.map toV).toArray f.offset;Instr.checkKey q D f.type x;pure (ForInStep.yield PUnit.unit)) else pure (ForInStep.yield PUnit.unit)):Sem PUnit).run P w=.ok PUnit.unit w
 | [],off,ks,XS,h,hx,fx,w=>by simp
 | f::fs,off,ks,XS,h,hx,fx,w=>by
  simp only [eqFields] at h
  split at h
  ·rename_i hc
   simp only [Bool.and_eq_true,bne_iff_ne,ne_eq,beq_iff_eq] at hc
   obtain ⟨hn,ho⟩:=hc
   split at h
   ·rename_i k1 hk1
    split at h
    ·rename_i hsz
     simp only [beq_iff_eq] at hsz
     cases hr:eqFields P (zAd P d) fs (off+k1.length) with
     | none=>rw [hr] at h;cases h
     | some k2 =>
      rw [hr] at h;simp only [Option.map_some,Option.some.injEq] at h;subst h
      have hlx:=fits_len fx
      simp only [List.length_drop,List.length_append] at hlx
      obtain ⟨fx1,fx2⟩:=fits_append fx
      rw [List.drop_drop] at fx2
      have e1:=ih f.type k1 _ hk1 fx1 w
      have e2:=run_check_fields ih fs (off+k1.length) k2 XS hr (by omega) fx2 w
      simp only [List.forIn_cons,Sem.run_bind,ne_eq,hn,not_false_eq_true,if_true,ho,run_part_mk hk1 hsz XS off (by omega),Result.andThen_ok,e1,Sem.run_pure]
      exact e2
    ·cases h
   ·cases h
  ·cases h
theorem run_check_elems {q:Bool} {d D:Nat} {e:TypeId} {ks:List (Option IntKind)} (hk:zAd P d e=some ks) (hsz:P.cellsOf e=ks.length) (hse:∀ w,(sizeOf e).run P w=.ok ks.length w) (ih:∀ xs,fits ks xs=true→∀ w,(Instr.checkKey q D e (mkV P e xs)).run P w=.ok () w) (XS:List AV) :
  ∀ (m j:Nat),fits (repL ks m) (XS.drop (j*ks.length))=true→j*ks.length≤XS.length →
   ∀ w,(forIn (List.range' j m 1) PUnit.unit (fun i _=>(do
    let n ← sizeOf e
    let x ← part e (XS.map toV).toArray (i*n)
    Instr.checkKey q D e x
    pure (ForInStep.yield PUnit.unit)):Nat→PUnit→Sem (ForInStep PUnit))).run P w=.ok PUnit.unit w
 | 0,j,fx,hx,w=>by simp
 | m+1,j,fx,hx,w=>by
  have hlx:=fits_len fx
  simp only [repL,List.length_drop,List.length_append] at hlx
  obtain ⟨fx1,fx2⟩:=fits_append (show fits (ks++repL ks m) _=true from fx)
  rw [List.drop_drop,← Nat.succ_mul] at fx2
  have e1:=ih _ fx1 w
  have e2:=run_check_elems hk hsz hse ih XS m (j+1) fx2 (by rw [Nat.succ_mul];omega) w
  simp only [List.range'_succ,List.forIn_cons,Sem.run_bind,hse,Result.andThen_ok,run_part_mk hk hsz XS (j*ks.length) (by omega),e1,Sem.run_pure]
  exact e2
theorem run_checkKey {q:Bool}:∀ (d t:Nat) (ks:List (Option IntKind)) (xs:List AV),zAd P d t=some ks→fits ks xs=true→∀ (D:Nat),d≤D→∀ w,(Instr.checkKey q D t (mkV P t xs)).run P w=.ok () w
 | 0,t,ks,xs,h,_,_,_,_=>by simp [zAd] at h
 | d+1,t,ks,xs,h,fx,D,hD,w=>by
  obtain ⟨D,rfl⟩:∃ D',D=D'+1:=⟨D-1,by omega⟩
  simp only [zAd] at h
  cases hu:P.underlying t with
  | none=>rw [hu] at h;simp at h
  | some u =>
   rw [hu] at h
   cases u<;>simp only at h<;>try (cases h;done)
   case bool =>
    cases h
    obtain ⟨a,rfl⟩:=fits_bool fx
    simp [mkV,hu,toV,Instr.checkKey,zA9 hu]
   case int k =>
    cases h
    obtain ⟨a,rfl⟩:=fits_int fx
    simp [mkV,hu,toV,Instr.checkKey,zA9 hu]
   case struct fs =>
    split at h
    ·cases h
    ·have:=run_check_fields (P:=P) (q:=q) (d:=d) (D:=D) (fun t ks xs h fx w=>run_checkKey d t ks xs h fx D (by omega) w) fs.toList 0 ks xs h (by omega) (by simpa using fx) w
     simp only [mkV,hu,Instr.checkKey,Sem.run_bind,zA9 hu,Result.andThen_ok]
     rw [← Array.forIn_toList]
     rw [show (_:Result PUnit)=_ from this]
     rfl
   case array n e =>
    cases hk:zAd P d e with
    | none=>rw [hk] at h;cases h
    | some k1 =>
     rw [hk] at h
     simp only at h
     split at h
     ·rename_i hsz
      simp only [beq_iff_eq] at hsz
      cases h
      obtain ⟨ie,hie⟩:∃ ie,P.info? e=some ie:=by
       cases d with
       | zero=>simp [zAd] at hk
       | succ d =>
        simp only [zAd] at hk
        cases hue:P.underlying e with
        | none=>rw [hue] at hk;simp at hk
        | some ue=>exact info_of_underlying hue
      have hse:ie.size=k1.length:=by rw [← hsz];simp [Program.cellsOf,hie]
      have key:=run_check_elems (P:=P) (q:=q) (D:=D) hk hsz (fun w=>by rw [run_sizeOf' hie,hse]) (fun xs fx w=>run_checkKey d e k1 xs hk fx D (by omega) w) xs n 0 (by simpa using fx) (by omega) w
      simp only [mkV,hu,Instr.checkKey,Sem.run_bind,zA9 hu,Result.andThen_ok,Std.Legacy.Range.forIn_eq_forIn_range',Std.Legacy.Range.size,Nat.sub_zero,Nat.add_one_sub_one,Nat.div_one]
      rw [show (_:Result PUnit)=_ from key]
      rfl
     ·cases h
theorem isStr_false {t:TypeId} (h:isStr P t=false) (xs:List AV):mkV P t xs=toV (xs.headD .undef):=by
 unfold isStr at h
 unfold mkV
 split at h
 ·cases h
 ·cases h
 ·rename_i hn hn2
  split
  ·rename_i fs hu;exact absurd hu (hn fs)
  ·rename_i n e hu;exact absurd hu (hn2 n e)
  ·rfl
theorem isStr_true {t:TypeId} (h:isStr P t=true) (xs:List AV):mkV P t xs=.agg (xs.map toV).toArray:=by
 unfold isStr at h
 split at h
 ·rename_i fs hu;simp only [mkV,hu]
 ·rename_i hu;simp only [mkV,hu]
 ·cases h
theorem keyFit_rel {kt:TypeId} {k:AV} {K:Value} (h:KeyFit P kt k) (r:Rel c k K):K=mkV P kt k.cells:=by
 obtain ⟨ks,h1,h2,⟨cs,rfl,h3⟩ | ⟨q,n,rfl,h3⟩ | ⟨b,rfl,h3⟩⟩:=h
 ·simp only [Rel] at r
  obtain ⟨ar,rfl,ra⟩:=r
  have:=fits_rel h2 ra
  rw [isStr_true h3]
  simp only [AV.cells,Value.agg.injEq]
  exact Array.ext' (by simpa [AV.cells] using this)
 ·simp only [Rel] at r;subst r;rw [isStr_false h3];rfl
 ·simp only [Rel] at r;subst r;rw [isStr_false h3];rfl
theorem fits_lt {N:Nat}:∀ {ks:List (Option IntKind)} {xs:List AV},fits ks xs=true→ltL N xs=true
 | [],[],_=>rfl
 | [],_::_,h=>by simp [fits] at h
 | none::ks,x::xs,h=>by
  cases x<;>simp only [fits] at h<;>try (cases h;done)
  simp only [ltL,AV.lt,Bool.true_and];exact fits_lt h
 | some k::ks,x::xs,h=>by
  cases x<;>simp only [fits] at h<;>try (cases h;done)
  simp only [Bool.and_eq_true] at h
  simp only [ltL,AV.lt,Bool.true_and];exact fits_lt h.2
 | _::_,[],h=>by simp [fits] at h
theorem fits_shape {ks:List (Option IntKind)} {k:AV} (h:fits ks k.cells=true):(∃ cs,k=.agg cs)∨(∃ q n,k=.int q n)∨(∃ b,k=.bool b):=by
 cases k with
 | agg cs=>exact .inl ⟨cs,rfl⟩
 | int q n=>exact .inr (.inl ⟨q,n,rfl⟩)
 | bool b=>exact .inr (.inr ⟨b,rfl⟩)
 | _ =>
  exfalso
  cases ks with
  | nil=>simp [AV.cells,fits] at h
  | cons k ks=>cases k<;>simp [AV.cells,fits] at h
theorem eqFit_key (ok:Ok C P) {kt:TypeId} {k:AV} (h:eqFit C kt k=true):KeyFit P kt k:=by
 unfold eqFit at h
 split at h
 ·rename_i st ks hks
  simp only [Bool.and_eq_true] at h
  obtain ⟨hk,hst,_⟩:=ok.eq _ _ _ hks
  refine ⟨ks,hk,h.2,?_⟩
  obtain ⟨h1,h2⟩:=h
  rcases fits_shape h2 with ⟨cs,rfl⟩ | ⟨q,n,rfl⟩ | ⟨b,rfl⟩
  ·exact .inl ⟨cs,rfl,by rw [hst];exact h1⟩
  ·exact .inr (.inl ⟨q,n,rfl,by rw [hst];simpa using h1⟩)
  ·exact .inr (.inr ⟨b,rfl,by rw [hst];simpa using h1⟩)
 ·cases h
theorem keyFit_lt {kt:TypeId} {k:AV} (N:Nat) (h:KeyFit P kt k):k.lt N=true:=by
 obtain ⟨ks,_,h2,_⟩:=h
 exact cellsLt.2 (fits_lt h2)
theorem same_cells {k k':AV} {kt:TypeId} (h:KeyFit P kt k) (h':KeyFit P kt k'):zBd k.cells k'.cells=k.same k':=by
 obtain ⟨_,_,_,h⟩:=h
 obtain ⟨_,_,_,h'⟩:=h'
 rcases h with ⟨cs,rfl,h3⟩ | ⟨q,n,rfl,h3⟩ | ⟨b,rfl,h3⟩<;>rcases h' with ⟨cs',rfl,h3'⟩ | ⟨q',n',rfl,h3'⟩ | ⟨b',rfl,h3'⟩
 ·rfl
 ·rw [h3] at h3';cases h3'
 ·rw [h3] at h3';cases h3'
 ·rw [h3] at h3';cases h3'
 ·simp only [AV.cells,zBd,AV.same,Bool.and_true]
 ·rfl
 ·rw [h3] at h3';cases h3'
 ·rfl
 ·simp only [AV.cells,zBd,AV.same,Bool.and_true]
theorem run_equal_key {kt:TypeId} {k k':AV} {K K':Value} (h:KeyFit P kt k) (h':KeyFit P kt k') (r:Rel c k K) (r':Rel c k' K') (w:World):(Op.equal kt K K').run P w=.ok (k.same k') w:=by
 rw [keyFit_rel h r,keyFit_rel h' r',← same_cells h h']
 obtain ⟨ks,h1,h2,_⟩:=h
 obtain ⟨ks',h1',h2',_⟩:=h'
 rw [h1] at h1';cases h1'
 exact run_equal_cells 8 kt ks _ _ h1 h2 h2' 10000 (by omega) w
def findM (k:AV):List (AV×AV)→Nat→Option (Nat×AV)
 | [],_=>none
 | (k',v)::r,i=>if k.same k' then some (i,v) else findM k r (i+1)
def FoundAs (c:Cx) (o:Option (Nat×Value)):Option (Nat×AV)→Prop
 | none=>o=none
 | some (m,v)=>∃ V,o=some (m,V)∧Rel c v V
theorem asking_run {kt:TypeId} {k:AV} {K:Value} (hk:KeyFit P kt k) (rk:Rel c k K) (w:World):∀ (es:List (AV×AV)) (l:List MapEntry) (j i:Nat),RelM c es l j→(∀ x∈es,KeyFit P kt x.1) →
  ∃ o,(Instr.findAsking kt K l i).run P w=.ok o w∧FoundAs c o (findM k es i)
 | [],l,j,i,r,_=>by
  simp only [RelM] at r;subst r
  exact ⟨none,by simp only [Instr.findAsking,Sem.run_pure],rfl⟩
 | (k',v)::es,l,j,i,r,hf=>by
  simp only [RelM] at r
  obtain ⟨e,s,rfl,hk',hv,_,hr⟩:=r
  have he:=run_equal_key hk (hf (k',v) (by simp)) rk hk' w
  simp only [Instr.findAsking,Sem.run_bind,he,Result.andThen_ok,Sem.run_ite,findM]
  cases hs:k.same k' with
  | true=>exact ⟨some (i,e.val),rfl,⟨_,rfl,hv⟩⟩
  | false =>
   obtain ⟨o,h1,h2⟩:=asking_run hk rk w es s (j+1) (i+1) hr (fun x hx=>hf x (by simp [hx]))
   exact ⟨o,h1,h2⟩
theorem now_same {u:TypeDesc} {k k':AV} {K K':Value} {b:Bool} {kt:TypeId} (hk:KeyFit P kt k) (hk':KeyFit P kt k') (r:Rel c k K) (r':Rel c k' K') (h:Instr.sameNow u K K'=some b):b=k.same k':=by
 obtain ⟨ks,h1,h2,h3⟩:=hk
 obtain ⟨ks',h1',h2',h3'⟩:=hk'
 rw [h1] at h1';cases h1'
 rcases h3 with ⟨cs,rfl,_⟩ | ⟨q,n,rfl,_⟩ | ⟨x,rfl,_⟩
 ·simp only [Rel] at r
  obtain ⟨ar,rfl,_⟩:=r
  cases u<;>simp [Instr.sameNow] at h
 ·simp only [Rel] at r;subst r
  rcases h3' with ⟨cs,rfl,_⟩ | ⟨q',n',rfl,_⟩ | ⟨x',rfl,_⟩
  ·simp only [Rel] at r';obtain ⟨ar,rfl,_⟩:=r'
   cases u<;>simp [Instr.sameNow] at h
  ·simp only [Rel] at r';subst r'
   cases u<;>simp only [Instr.sameNow] at h<;>try (cases h;done)
   split at h
   ·rename_i hq
    cases h
    subst hq
    simp only [AV.same,beq_self_eq_true,Bool.true_and]
   ·cases h
  ·simp only [Rel] at r';subst r'
   cases u<;>simp [Instr.sameNow] at h
 ·simp only [Rel] at r;subst r
  rcases h3' with ⟨cs,rfl,_⟩ | ⟨q',n',rfl,_⟩ | ⟨x',rfl,_⟩
  ·simp only [Rel] at r';obtain ⟨ar,rfl,_⟩:=r'
   cases u<;>simp [Instr.sameNow] at h
  ·simp only [Rel] at r';subst r'
   cases u<;>simp [Instr.sameNow] at h
  ·simp only [Rel] at r';subst r'
   cases u<;>simp only [Instr.sameNow] at h<;>try (cases h;done)
   cases h
   simp only [AV.same]
theorem now_run {kt:TypeId} {u:TypeDesc} {k:AV} {K:Value} (hk:KeyFit P kt k) (rk:Rel c k K):∀ (es:List (AV×AV)) (l:List MapEntry) (j i:Nat),RelM c es l j→(∀ x∈es,KeyFit P kt x.1) →
  ∀ o,Instr.findNow u K l i=some o→FoundAs c o (findM k es i)
 | [],l,j,i,r,_,o,h=>by
  simp only [RelM] at r;subst r
  simp only [Instr.findNow,Option.some.injEq] at h
  exact h.symm
 | (k',v)::es,l,j,i,r,hf,o,h=>by
  simp only [RelM] at r
  obtain ⟨e,s,rfl,hk',hv,_,hr⟩:=r
  simp only [Instr.findNow] at h
  split at h
  ·rename_i hb
   have:=now_same hk (hf (k',v) (by simp)) rk hk' hb
   cases h
   simp only [findM,← this,if_true]
   exact ⟨_,rfl,hv⟩
  ·rename_i hb
   have:=now_same hk (hf (k',v) (by simp)) rk hk' hb
   simp only [findM,← this]
   exact now_run hk rk es s (j+1) (i+1) hr (fun x hx=>hf x (by simp [hx])) o h
  ·cases h
theorem find_run {kt:TypeId} {u:TypeDesc} (hu:P.underlying kt=some u) {k:AV} {K:Value} (hk:KeyFit P kt k) (rk:Rel c k K) {es:List (AV×AV)} {l:List MapEntry} (hr:RelM c es l 0) (hf:∀ x∈es,KeyFit P kt x.1) (w:World) :
  ∃ o,(Instr.findKey kt K l).run P w=.ok o w∧FoundAs c o (findM k es 0):=by
 simp only [Instr.findKey,Sem.run_bind,zA9 hu,Result.andThen_ok]
 cases hn:Instr.findNow u K l 0 with
 | some o=>exact ⟨o,rfl,now_run hk rk es l 0 0 hr hf o hn⟩
 | none=>exact asking_run hk rk w es l 0 0 hr hf
theorem keyFit_under {kt:TypeId} {k:AV} (h:KeyFit P kt k):∃ u,P.underlying kt=some u:=by
 obtain ⟨ks,h1,_⟩:=h
 simp only [zAd] at h1
 cases hu:P.underlying kt with
 | none=>rw [hu] at h1;simp at h1
 | some u=>exact ⟨u,rfl⟩
theorem check_run {kt:TypeId} {k:AV} {K:Value} (hk:KeyFit P kt k) (rk:Rel c k K) (q:Bool) (w:World):(Instr.checkKey q 10000 kt K).run P w=.ok () w:=by
 rw [keyFit_rel hk rk]
 obtain ⟨ks,h1,h2,_⟩:=hk
 exact run_checkKey 8 kt ks _ h1 h2 10000 (by omega) w
end
end Go.Ab
