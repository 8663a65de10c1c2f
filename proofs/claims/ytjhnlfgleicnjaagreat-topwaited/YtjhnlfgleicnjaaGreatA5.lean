/- Each operation of the abstract evaluator is one of the model: those that write nothing. -/
import Derived.Test.YtjhnlfgleicnjaaGreatA4
import Derived.Laws.StructEq
import Derived.Laws.Append
import Derived.Laws.Slices
import Derived.Laws.Cells
namespace Go.Ab
set_option linter.unusedSimpArgs false
set_option linter.unusedVariables false
def SortsI (P:Program) (g:FuncId):Prop:=(∃ fn,P.funcs[g]? = some fn∧fn.name ≠ "runtime.NumGoroutine" ∧ fn.body.isSome=true) ∧
 ∀ (b cap:Nat) (zs:List Int) (rest:List Value) (T:TypeId) (w:World),w.heap[b]? = some (.cells (zs.map (Value.int .i64)++rest).toArray T (0,0))→zs.length<1048576→∀ cs:List Frame,
  ∃ (w' w1:World) (os:Array Obj) (fr:Frame) (fn:Func),Steps P (lone (Frame.enter P g #[.slice (some ⟨b,0,none⟩) zs.length cap] .normal) cs w) (lone fr cs w') ∧
   (fr.mode=.returning∧fr.defers=[]∧fr.kind=.normal∧fr.fn=g)∧(P.funcs[g]? = some fn∧(results fn fr.tmps).run P w'=.ok (.tuple #[]) w') ∧
   w'={ w1 with heap:=w1.heap++os }∧(w1.os=w.os∧w1.tape=w.tape∧w1.output=w.output)∧w1.heap.size=w.heap.size∧(∀ k,k≠b→w1.heap[k]? = w.heap[k]?) ∧
   w1.heap[b]? = some (.cells ((zs.mergeSort fun x y=>decide (x≤y)).map (Value.int .i64)++rest).toArray T (0,0))
def CompactsI (P:Program) (g:FuncId):Prop:=(∃ fn,P.funcs[g]? = some fn∧fn.name ≠ "runtime.NumGoroutine" ∧ fn.body.isSome=true) ∧
 ∀ (b cap:Nat) (zs:List Int) (rest:List Value) (T:TypeId) (w:World),w.heap[b]? = some (.cells (zs.map (Value.int .i64)++rest).toArray T (0,0))→zs.length<1048576→zs.length≤cap→∀ cs:List Frame,
  ∃ (w':World) (fr:Frame) (fn:Func),Steps P (lone (Frame.enter P g #[.slice (some ⟨b,0,none⟩) zs.length cap] .normal) cs w) (lone fr cs w') ∧
   (fr.mode=.returning∧fr.defers=[]∧fr.kind=.normal∧fr.fn=g)∧(P.funcs[g]? = some fn∧(results fn fr.tmps).run P w'=.ok (.slice (some ⟨b,0,none⟩) (dedupI zs).length cap) w') ∧
   (w'.os=w.os∧w'.tape=w.tape∧w'.output=w.output)∧w'.heap.size=w.heap.size∧(∀ k,k≠b→w'.heap[k]? = w.heap[k]?) ∧
   ∃ rest',rest'.length+(dedupI zs).length=zs.length+rest.length∧w'.heap[b]? = some (.cells ((dedupI zs).map (Value.int .i64)++rest').toArray T (0,0))
structure Ok (C:Cfg) (P:Program):Prop where
 srt:∀ g,C.srt g=true→SortsI P g
 cpt:∀ g,C.cpt g=true→CompactsI P g
 ty:∀ t y,C.ty t=some y→tyOf P t=some y
 eq:∀ t st ks,C.eqt t=some (st,ks)→zAd P 8 t=some ks∧isStr P t=st∧P.eqGuardType P.depth t=false
 meth:∀ t n g,C.meth t n=some g→methodOf P t n=some g
 glob:∀ g v,C.glob g=some v→(g,v)∈globL
 fns:∀ g fn,C.fns g=some fn→P.funcs[g]? = some fn∧fn.name ≠ "runtime.NumGoroutine" ∧ ∀ b,fn.body=some b→codeOk fn.ntmps b=true
 fields:∀ t y fs,C.ty t=some y→y.d=.struct fs→∀ x∈fs,∃ z,C.ty x.2=some z
def OpOk (P:Program) (B base:Nat) (c:Cx) (r:Result Next) (v:AV) (H':Heap):Prop :=
 ∃ n v' w' ρ',r=.ok n w'∧(n=.value v'∨(n=.skip∧v'=Go.undef))∧Rel ⟨w',ρ',H'⟩ v v'∧Sim P B ⟨w',ρ',H'⟩∧Tr base c ⟨w',ρ',H'⟩∧HB base H'
theorem pure_ok {P:Program} {B base:Nat} {c:Cx} (hs:Sim P B c) (hb:HB base c.H) {r:Result Next} {v:AV} {v':Value} (h:r=.ok (.value v') c.w) (hv:Rel c v v'):OpOk P B base c r v c.H :=
 ⟨_,v',c.w,c.ρ,h,.inl rfl,hv,hs,Tr.refl _ _,hb⟩
theorem rel_scalar {c:Cx} (v:Value):Rel c (zB4 v) v:=by
 unfold zB4
 split<;>simp only [Rel,RelL]
 exact ⟨none,0,by simp,by simp,⟨rfl,by simp⟩,.inl trivial⟩
theorem rel_scalars {c:Cx}:∀ l:List Value,RelL c (l.map zB4) l
 | []=>by simp [RelL]
 | v::r=>by simp only [List.map_cons,RelL];exact ⟨v,r,rfl,rel_scalar v,rel_scalars r⟩
theorem rel_const {c:Cx} (v:Value):Rel c (ofConst v) v:=by
 unfold ofConst
 split
 ·simp only [Rel];exact ⟨_,rfl,rel_scalars _⟩
 ·exact rel_scalar _
theorem rel_opd {C:Cfg} {P:Program} (ok:Ok C P) {c:Cx} (hg:GlobOk c) {e:Env} {a:Act} (h:zBc c e a.tmps) (x:Operand):Rel c (opd C e x) (a.eval x):=by
 cases x with
 | tmp t=>exact h t
 | const v=>exact rel_const v
 | global g =>
  simp only [opd]
  split
  ·rename_i v hv
   exact hg g v (ok.glob g v hv)
  ·simp only [Rel]
 | func f=>simp only [opd,Act.eval,Rel];exact ⟨_,_,_,rfl,rfl,by simp [RelL],by simp [RelL]⟩
def toV:AV→Value
 | .int k n=>.int k n
 | .bool b=>.bool b
 | _=>Go.undef
def mkV (P:Program) (t:TypeId) (xs:List AV):Value :=
 match P.underlying t with
 | some (.struct _)=>.agg (xs.map toV).toArray
 | some (.array _ _)=>.agg (xs.map toV).toArray
 | _=>toV (xs.headD .undef)
theorem fits_len:∀ {ks:List (Option IntKind)} {xs:List AV},fits ks xs=true→xs.length=ks.length
 | [],[],_=>rfl
 | [],_::_,h=>by simp [fits] at h
 | none::ks,x::xs,h=>by
  cases x<;>simp only [fits] at h<;>first | (simp [fits_len h];done) | (cases h;done)
 | some k::ks,x::xs,h=>by
  cases x<;>simp only [fits] at h<;>first | (simp only [Bool.and_eq_true] at h;simp [fits_len h.2];done) | (cases h;done)
 | _::_,[],h=>by simp [fits] at h
theorem fits_rel {c:Cx}:∀ {ks:List (Option IntKind)} {xs:List AV} {ys:List Value},fits ks xs=true→RelL c xs ys→ys=xs.map toV
 | [],[],ys,_,r=>by simpa [RelL] using r
 | [],_::_,_,h,_=>by simp [fits] at h
 | none::ks,x::xs,ys,h,r=>by
  simp only [RelL] at r
  obtain ⟨y,s,rfl,hy,hs⟩:=r
  cases x<;>simp only [fits] at h<;>try (cases h;done)
  simp only [Rel] at hy
  simp [toV,hy,fits_rel h hs]
 | some k::ks,x::xs,ys,h,r=>by
  simp only [RelL] at r
  obtain ⟨y,s,rfl,hy,hs⟩:=r
  cases x<;>simp only [fits] at h<;>try (cases h;done)
  simp only [Bool.and_eq_true] at h
  simp only [Rel] at hy
  simp [toV,hy,fits_rel h.2 hs]
 | _::_,[],_,h,_=>by simp [fits] at h
theorem fits_append:∀ {ks ls:List (Option IntKind)} {xs:List AV},fits (ks++ls) xs=true→fits ks (xs.take ks.length)=true∧fits ls (xs.drop ks.length)=true
 | [],ls,xs,h=>by simpa [fits] using h
 | none::ks,ls,x::xs,h=>by
  cases x<;>simp only [List.cons_append,fits] at h<;>try (cases h;done)
  simpa [fits] using fits_append h
 | some k::ks,ls,x::xs,h=>by
  cases x<;>simp only [List.cons_append,fits] at h<;>try (cases h;done)
  simp only [Bool.and_eq_true] at h
  have:=fits_append h.2
  simp [fits,h.1,this]
 | none::_,_,[],h=>by simp [fits] at h
 | some _::_,_,[],h=>by simp [fits] at h
theorem sameL_split:∀ (n:Nat) (xs ys:List AV),xs.length=ys.length→zBd xs ys=(zBd (xs.take n) (ys.take n)&&zBd (xs.drop n) (ys.drop n))
 | 0,xs,ys,_=>by simp [zBd]
 | n+1,[],[],_=>by simp [zBd]
 | n+1,[],_::_,h=>by simp at h
 | n+1,_::_,[],h=>by simp at h
 | n+1,x::xs,y::ys,h=>by
  simp only [List.take_succ_cons,List.drop_succ_cons,zBd]
  rw [sameL_split n xs ys (by simpa using h),Bool.and_assoc]
theorem info_of_underlying {P:Program} {t:TypeId} {d:TypeDesc} (h:P.underlying t=some d):∃ i,P.info? t=some i:=by
 unfold Program.underlying at h
 cases e:P.info? t with
 | none=>rw [e] at h;simp at h
 | some i=>exact ⟨i,rfl⟩
theorem run_sizeOf' {P:Program} {t:TypeId} {i:TypeInfo} (h:P.info? t=some i) (w:World):(sizeOf t).run P w=.ok i.size w:=by
 simp [sizeOf,typeInfo,h]
theorem zA9 {P:Program} {t:TypeId} {d:TypeDesc} (h:P.underlying t=some d) (w:World):(underlying t).run P w=.ok d w:=by
 simp [underlying,h]
theorem head_take_drop (XS:List AV) (off:Nat) (h:off<XS.length):((XS.drop off).take 1).head?.getD .undef=XS[off]:=by
 rw [List.drop_eq_getElem_cons h];rfl
theorem fits_bool {xs:List AV} (h:fits [none] xs=true):∃ b,xs=[.bool b]:=by
 match xs,h with
 | x::r,h =>
  cases x<;>simp only [fits] at h<;>try (cases h;done)
  cases r with
  | nil=>exact ⟨_,rfl⟩
  | cons _ _=>simp [fits] at h
theorem fits_int {k:IntKind} {xs:List AV} (h:fits [some k] xs=true):∃ n,xs=[.int k n]:=by
 match xs,h with
 | x::r,h =>
  cases x<;>simp only [fits] at h<;>try (cases h;done)
  simp only [Bool.and_eq_true,beq_iff_eq] at h
  obtain ⟨rfl,h⟩:=h
  cases r with
  | nil=>exact ⟨_,rfl⟩
  | cons _ _=>simp [fits] at h
theorem run_part_mk {P:Program} {d:Nat} {t:TypeId} {ks:List (Option IntKind)} (hk:zAd P d t=some ks) (hc:P.cellsOf t=ks.length) (XS:List AV) (off:Nat) (hl:off+ks.length≤XS.length) (w:World) :
  (part t (XS.map toV).toArray off).run P w=.ok (mkV P t ((XS.drop off).take ks.length)) w:=by
 cases d with
 | zero=>simp [zAd] at hk
 | succ d =>
  simp only [zAd] at hk
  cases hu:P.underlying t with
  | none=>rw [hu] at hk;simp at hk
  | some u =>
   rw [hu] at hk
   obtain ⟨i,hi⟩:=info_of_underlying hu
   have hsz:i.size=ks.length:=by rw [← hc];simp [Program.cellsOf,hi]
   cases u<;>simp only at hk<;>try (cases hk;done)
   case bool =>
    cases hk
    have h1:off<XS.length:=by simp at hl;omega
    simp [part,isAgg,zA9 hu,mkV,hu,List.getElem?_eq_getElem h1,head_take_drop XS off h1]
   case int k =>
    cases hk
    have h1:off<XS.length:=by simp at hl;omega
    simp [part,isAgg,zA9 hu,mkV,hu,List.getElem?_eq_getElem h1,head_take_drop XS off h1]
   case struct fs =>
    simp [part,isAgg,zA9 hu,mkV,hu,run_sizeOf' hi,hsz,List.extract_eq_take_drop,List.map_drop,List.map_take]
   case array n e =>
    simp [part,isAgg,zA9 hu,mkV,hu,run_sizeOf' hi,hsz,List.extract_eq_take_drop,List.map_drop,List.map_take]
theorem run_equal_fields {P:Program} {d D:Nat} (ih:∀ t ks xs ys,zAd P d t=some ks→fits ks xs=true→fits ks ys=true→∀ w,(Op.equalIn D t (mkV P t xs) (mkV P t ys)).run P w=.ok (zBd xs ys) w) :
  ∀ (fs:List Field) (off:Nat) (ks:List (Option IntKind)) (XS YS:List AV),eqFields P (zAd P d) fs off=some ks→off≤XS.length→off≤YS.length→fits ks (XS.drop off)=true→fits ks (YS.drop off)=true →
   ∀ w,(Op.eqFields D (XS.map toV).toArray (YS.map toV).toArray fs).run P w=.ok (zBd (XS.drop off) (YS.drop off)) w
 | [],off,ks,XS,YS,h,hx,hy,fx,fy,w=>by
  simp only [eqFields] at h;cases h
  have h1:=fits_len fx;have h2:=fits_len fy
  simp only [List.length_nil,List.length_eq_zero_iff] at h1 h2
  simp [Op.eqFields,h1,h2,zBd]
 | f::fs,off,ks,XS,YS,h,hx,hy,fx,fy,w=>by
  simp only [eqFields] at h
  split at h
  ·rename_i hc
   simp only [Bool.and_eq_true,bne_iff_ne,ne_eq,beq_iff_eq] at hc
   obtain ⟨hn,ho⟩:=hc
   split at h
   ·rename_i k1 hk1
    split at h
    ·rename_i hsz
     simp only [beq_iff_eq] at hsz
     cases hr:eqFields P (zAd P d) fs (off+k1.length) with
     | none=>rw [hr] at h;cases h
     | some k2 =>
      rw [hr] at h;simp only [Option.map_some,Option.some.injEq] at h;subst h
      have hlx:=fits_len fx;have hly:=fits_len fy
      simp only [List.length_drop,List.length_append] at hlx hly
      obtain ⟨fx1,fx2⟩:=fits_append fx
      obtain ⟨fy1,fy2⟩:=fits_append fy
      rw [List.drop_drop] at fx2 fy2
      simp only [Op.eqFields]
      rw [if_pos hn]
      have e1:=ih f.type k1 _ _ hk1 fx1 fy1 w
      have e2:=run_equal_fields ih fs (off+k1.length) k2 XS YS hr (by omega) (by omega) fx2 fy2 w
      rw [sameL_split k1.length _ _ (by simp;omega),List.drop_drop,List.drop_drop]
      simp only [Sem.run_bind,ho,run_part_mk hk1 hsz XS off (by omega),run_part_mk hk1 hsz YS off (by omega),Result.andThen_ok,e1,Sem.run_ite,Sem.run_pure,e2]
      cases zBd (List.take k1.length (List.drop off XS)) (List.take k1.length (List.drop off YS))<;>simp
    ·cases h
   ·cases h
  ·cases h
theorem run_equal_elems {P:Program} {d D:Nat} {e:TypeId} {ks:List (Option IntKind)} (hk:zAd P d e=some ks) (hsz:P.cellsOf e=ks.length) (ih:∀ xs ys,fits ks xs=true→fits ks ys=true→∀ w,(Op.equalIn D e (mkV P e xs) (mkV P e ys)).run P w=.ok (zBd xs ys) w) (XS YS:List AV) :
  ∀ (q j:Nat),fits (repL ks q) (XS.drop (j*ks.length))=true→fits (repL ks q) (YS.drop (j*ks.length))=true→j*ks.length≤XS.length→j*ks.length≤YS.length →
   ∀ w,(forIn (List.range' j q 1) ((none,()):Option Bool×Unit) (fun i _=>(do
    let x ← part e (XS.map toV).toArray (i*ks.length)
    let y ← part e (YS.map toV).toArray (i*ks.length)
    let b ← Op.equalIn D e x y
    if !b then pure (ForInStep.done (some false,())) else pure (ForInStep.yield (none,()))):Nat→Option Bool×Unit→Sem (ForInStep (Option Bool×Unit)))).run P w
    = .ok (if zBd (XS.drop (j*ks.length)) (YS.drop (j*ks.length)) then (none,()) else (some false,())) w
 | 0,j,fx,fy,hx,hy,w=>by
  have h1:=fits_len fx;have h2:=fits_len fy
  simp only [repL,List.length_nil,List.length_eq_zero_iff] at h1 h2
  simp [h1,h2,zBd]
 | q+1,j,fx,fy,hx,hy,w=>by
  have hlx:=fits_len fx;have hly:=fits_len fy
  simp only [repL,List.length_drop,List.length_append] at hlx hly
  obtain ⟨fx1,fx2⟩:=fits_append (show fits (ks++repL ks q) _=true from fx)
  obtain ⟨fy1,fy2⟩:=fits_append (show fits (ks++repL ks q) _=true from fy)
  rw [List.drop_drop,← Nat.succ_mul] at fx2 fy2
  have e1:=ih _ _ fx1 fy1 w
  have e2:=run_equal_elems hk hsz ih XS YS q (j+1) fx2 fy2 (by rw [Nat.succ_mul];omega) (by rw [Nat.succ_mul];omega) w
  rw [sameL_split ks.length (XS.drop (j*ks.length)) (YS.drop (j*ks.length)) (by simp;omega),List.drop_drop,List.drop_drop,← Nat.succ_mul]
  simp only [List.range'_succ,List.forIn_cons,Sem.run_bind,run_part_mk hk hsz XS (j*ks.length) (by omega),run_part_mk hk hsz YS (j*ks.length) (by omega),Result.andThen_ok,e1]
  cases zBd (List.take ks.length (List.drop (j*ks.length) XS)) (List.take ks.length (List.drop (j*ks.length) YS))
  ·simp
  ·simp only [Bool.not_true,Bool.false_eq_true,if_false,Sem.run_pure,Result.andThen_ok,Bool.true_and]
   exact e2
theorem run_equal_cells {P:Program}:∀ (d t:Nat) (ks:List (Option IntKind)) (xs ys:List AV),zAd P d t=some ks→fits ks xs=true→fits ks ys=true→∀ (D:Nat),d≤D→∀ w,
  (Op.equalIn D t (mkV P t xs) (mkV P t ys)).run P w=.ok (zBd xs ys) w
 | 0,t,ks,xs,ys,h,_,_,_,_,_=>by simp [zAd] at h
 | d+1,t,ks,xs,ys,h,fx,fy,D,hD,w=>by
  obtain ⟨D,rfl⟩:∃ D',D=D'+1:=⟨D-1,by omega⟩
  simp only [zAd] at h
  cases hu:P.underlying t with
  | none=>rw [hu] at h;simp at h
  | some u =>
   rw [hu] at h
   cases u<;>simp only at h<;>try (cases h;done)
   case bool =>
    cases h
    obtain ⟨a,rfl⟩:=fits_bool fx
    obtain ⟨b,rfl⟩:=fits_bool fy
    simp [mkV,hu,toV,run_equalIn_bool' w D t a b hu,zBd,AV.same]
   case int k =>
    cases h
    obtain ⟨a,rfl⟩:=fits_int fx
    obtain ⟨b,rfl⟩:=fits_int fy
    simp [mkV,hu,toV,run_equalIn_int w D t _ _ a b hu,zBd,AV.same]
   case struct fs =>
    split at h
    ·cases h
    ·rename_i hst
     have hf:P.fieldsOf t=fs:=by simp [Program.fieldsOf,hu]
     have:=run_equal_fields (P:=P) (d:=d) (D:=D) (fun t ks xs ys h fx fy w=>run_equal_cells d t ks xs ys h fx fy D (by omega) w) fs.toList 0 ks xs ys h (by omega) (by omega) (by simpa using fx) (by simpa using fy) w
     simp only [mkV,hu]
     rw [run_equalIn_struct w D t _ _ (by rw [hf];exact hu) (by simpa using hst),hf]
     simpa using this
   case array n e =>
    cases hk:zAd P d e with
    | none=>rw [hk] at h;cases h
    | some k1 =>
     rw [hk] at h
     simp only at h
     split at h
     ·rename_i hsz
      simp only [beq_iff_eq] at hsz
      cases h
      have ih:=fun xs ys fx fy w=>run_equal_cells d e k1 xs ys hk fx fy D (by omega) w
      have key:=run_equal_elems hk hsz ih xs ys n 0 (by simpa using fx) (by simpa using fy) (by omega) (by omega) w
      obtain ⟨ie,hie⟩:∃ ie,P.info? e=some ie:=by
       cases d with
       | zero=>simp [zAd] at hk
       | succ d =>
        simp only [zAd] at hk
        cases hue:P.underlying e with
        | none=>rw [hue] at hk;simp at hk
        | some ue=>exact info_of_underlying hue
      have hse:ie.size=k1.length:=by rw [← hsz];simp [Program.cellsOf,hie]
      simp only [mkV,hu,Op.equalIn,Sem.run_bind,zA9 hu,run_sizeOf' hie,hse,Result.andThen_ok,Std.Legacy.Range.forIn_eq_forIn_range',Std.Legacy.Range.size,Nat.sub_zero,Nat.add_one_sub_one,Nat.div_one]
      simp only [Nat.zero_mul,List.drop_zero] at key
      rw [show (_:Result (Option Bool×Unit))=_ from key]
      simp only [Result.andThen_ok]
      cases zBd xs ys<;>simp
     ·cases h
theorem eqFit_rel {C:Cfg} {P:Program} (ok:Ok C P) {t:TypeId} {c:Cx} {x:AV} {X:Value} (h:eqFit C t x=true) (r:Rel c x X) :
  ∃ ks,zAd P 8 t=some ks∧fits ks x.cells=true∧X=mkV P t x.cells∧P.eqGuardType P.depth t=false:=by
 unfold eqFit at h
 split at h
 ·rename_i st ks hks
  simp only [Bool.and_eq_true] at h
  obtain ⟨h1,h2⟩:=h
  obtain ⟨hk,hst,hg⟩:=ok.eq _ _ _ hks
  refine ⟨ks,hk,h2,?_,hg⟩
  cases x with
  | agg cs =>
   simp only at h1;subst h1
   simp only [Rel] at r
   obtain ⟨a,rfl,ra⟩:=r
   have:=fits_rel h2 ra
   simp only [isStr] at hst
   split at hst
   ·rename_i fs hu
    simp only [mkV,hu,AV.cells,Value.agg.injEq]
    exact Array.ext' (by simpa [AV.cells] using this)
   ·rename_i hu
    simp only [mkV,hu,AV.cells,Value.agg.injEq]
    exact Array.ext' (by simpa [AV.cells] using this)
   ·cases hst
  | int k n =>
   simp only [Bool.not_eq_true'] at h1;subst h1
   simp only [Rel] at r;subst r
   simp only [isStr] at hst
   split at hst
   ·cases hst
   ·cases hst
   ·rename_i hu hu2;unfold mkV;split
    ·rename_i fs hf;exact absurd hf (hu fs)
    ·rename_i n e hf;exact absurd hf (hu2 n e)
    ·rfl
  | bool b =>
   simp only [Bool.not_eq_true'] at h1;subst h1
   simp only [Rel] at r;subst r
   simp only [isStr] at hst
   split at hst
   ·cases hst
   ·cases hst
   ·rename_i hu hu2;unfold mkV;split
    ·rename_i fs hf;exact absurd hf (hu fs)
    ·rename_i n e hf;exact absurd hf (hu2 n e)
    ·rfl
  | _ =>
   exfalso
   cases ks with
   | nil=>simp [AV.cells,fits] at h2
   | cons k ks=>cases k<;>simp [AV.cells,fits] at h2
 ·cases h
end Go.Ab
