/- Steps of a region that asks for an order. -/
import Derived.Test.YtjhnlfgleicnjaaGreatS1
namespace Go.Ab
set_option linter.unusedSimpArgs false
set_option linter.unusedVariables false
section
variable {C:Cfg} {P:Program} {F:FI} {k:List Item} {H:Heap} {e:Env} {df:List ADefer} {pn:Option (AV×Bool)} {d:Option Tmp} {t:TypeId} {p:String} {a:Array Edge} {all r:List Oper} {g:Option (Nat×Bool)}
def planK (o:Option (List (Nat×Nat))) (k:List (Nat×Nat)→Option RR):Option RR :=
 match o with
 | some ps=>k ps
 | none=>none
@[congr] theorem planK_congr {o o':Option (List (Nat×Nat))} {k:List (Nat×Nat)→Option RR} (h:o=o'):planK o k=planK o' k:=by rw [h]
theorem planK_some {ps:List (Nat×Nat)} {k:List (Nat×Nat)→Option RR}:planK (some ps) k=k ps:=rfl
def phK (o:Option Heap) (k:Heap→Option RR):Option RR :=
 match o with
 | some ps=>k ps
 | none=>none
@[congr] theorem phK_congr {o o':Option Heap} {k:Heap→Option RR} (h:o=o'):phK o k=phK o' k:=by rw [h]
theorem phK_some {ps:Heap} {k:Heap→Option RR}:phK (some ps) k=k ps:=rfl
def chkK (b:Bool) (s:St) (k:St→Option RR):Option RR:=if b then k s else none
theorem zAg {b:Bool} {s:St} {k:St→Option RR} (h:b=true):chkK b s k=k s:=by rw [h];rfl
@[congr] theorem chkK_congr {b:Bool} {s:St} {k:St→Option RR}:chkK b s k=chkK b s k:=rfl
theorem exec_draw {s:St} {id:Nat} {l:List Oper}:zAh C P F (.code (.region id l.toArray true)::k) s=gcK (gcAt C F id s) fun s=>regK (drawnL C P F id l.toArray s) (fun s'=>zAh C P F k s') (fun v s'=>unwL C P F (some (v,false)) s'):=by
 rw [execL_draw]
 cases gcAt C F id s with
 | none=>rfl
 | some s =>
  simp only [gcK_some]
  cases drawnL C P F id l.toArray s with
  | none=>rfl
  | some r=>cases r<;>rfl
theorem drawn_go {id:Nat} {l:List Oper}:drawnL C P F id l.toArray ⟨e,df,H,pn⟩=planK (C.plan F.fn id) fun ps=>phK (zAt C l) fun ph =>
  chkK (planOk P l.toArray ps) ⟨e,df,H++ph,pn⟩ fun s=>dopsL C P F l ps 0 l H.length s [] []:=by
 rw [drawnL_eq]
 simp only [List.toList_toArray]
 cases C.plan F.fn id with
 | none=>rfl
 | some ps =>
  simp only [planK_some]
  cases zAt C l with
  | none=>rfl
  | some ph=>simp [phK_some,chkK]
def ldsK (o:Option Lds) (k:Lds→Option RR):Option RR :=
 match o with
 | some x=>k x
 | none=>none
@[congr] theorem ldsK_congr {o o':Option Lds} {k:Lds→Option RR} (h:o=o'):ldsK o k=ldsK o' k:=by rw [h]
noncomputable def afterD (C:Cfg) (P:Program) (F:FI) (all:List Oper) (ps:List (Nat×Nat)) (i:Nat) (r:List Oper) (l l':Nat) (op:Op) (d:Option Tmp) (e:Env) (df:List ADefer) (H:Heap) (pn:Option (AV×Bool)) (lds:Lds) (efs:Efs):OpR→Option RR
 | .val v H'=>if zAl op then dopsL C P F all ps (i+1) r l' ⟨e.put d v,df,H',pn⟩ lds ((i,(H,H'))::efs)
   else dopsL C P F all ps (i+1) r l' ⟨e.put d v,df,H,pn⟩ (addLd i (zAp C e op) lds) efs
 | .call f a c=>callK (zAw C P F.base false f a c H none) (fun v H'=>dopsL C P F all ps (i+1) r l' ⟨e.put d v,df,H',pn⟩ lds ((i,(H,H'))::efs))
   (fun v H'=>ldsK (dpan C P F all ps i H (i+1) r l' (e.put d .undef) lds) fun lds'=>if ps.all (pairOk lds' efs) then some (.pan v ⟨panEnv ps i all e,df,H',pn⟩) else none)
 | _=>none
theorem dopsL_op {op:Op} {ps:List (Nat×Nat)} {i l:Nat} {lds:Lds} {efs:Efs}:dopsL C P F all ps i (⟨d,op,t,p,a,none⟩::r) l ⟨e,df,H,pn⟩ lds efs =
  stepV (evOpD C P F H e ⟨d,op,t,p,a,none⟩ l) (afterD C P F all ps i r l (if zAk op then l+1 else l) op d e df H pn lds efs):=by
 rw [dopsL_cons]
 simp only [zAf,nextL]
 cases evOpD C P F H e ⟨d,op,t,p,a,none⟩ l with
 | none=>rfl
 | some x =>
  cases x with
  | call f a c =>
   simp only [stepV_some,afterD]
   cases zAw C P F.base false f a c H none with
   | none=>rfl
   | some y =>
    obtain ⟨o,_,_⟩:=y
    cases o with
    | ret v=>rfl
    | pan v =>
     simp only [callK_pan]
     cases dpan C P F all ps i H (i+1) r (if zAk op=true then l+1 else l) (e.put d .undef) lds<;>rfl
  | _=>rfl
def dvK (o:Option OpR) (k:AV→Option Lds):Option Lds :=
 match o with
 | some (.val v _)=>k v
 | _=>none
@[congr] theorem dvK_congr {o o':Option OpR} {k:AV→Option Lds} (h:o=o'):dvK o k=dvK o' k:=by rw [h]
def guardP (v:AV) (w:Bool) (e:Env) (run skip:Env→Option Lds):Option Lds :=
 match v with
 | .bool b=>if b=w then run e else skip e
 | .tup _=>skip e
 | _=>none
@[congr] theorem guardP_congr {v v':AV} {w:Bool} {e:Env} {a b:Env→Option Lds} (h:v=v'):guardP v w e a b=guardP v' w e a b:=by rw [h]
theorem dopsL_guard {op:Op} {j:Nat} {w:Bool} {ps:List (Nat×Nat)} {i l:Nat} {lds:Lds} {efs:Efs}:dopsL C P F all ps i (⟨d,op,t,p,a,some (j,w)⟩::r) l ⟨e,df,H,pn⟩ lds efs =
  guardK (e.getO (dstAt all j)) w ⟨e,df,H,pn⟩ (fun s=>dopsL C P F all ps i (⟨d,op,t,p,a,none⟩::r) l s lds efs) (fun s=>dopsL C P F all ps (i+1) r (if zAk op then l+1 else l) ⟨s.env.put d (.tup []),s.dfr,s.H,s.pan⟩ lds efs):=by
 have hev:evOpD C P F H e ⟨d,op,t,p,a,some (j,w)⟩ l=evOpD C P F H e ⟨d,op,t,p,a,none⟩ l:=rfl
 rw [dopsL_cons,dstAt_eq]
 simp only [zAf,nextL]
 cases (all[j]?).bind (·.dst) with
 | none=>rfl
 | some k =>
  simp only [Env.getO]
  cases e.get k with
  | bool b =>
   cases hb:b==w with
   | false =>
    have hn:¬ b=w:=by simpa using hb
    simp only [guardK,if_neg hn,hb]
   | true =>
    have hn:b=w:=by simpa using hb
    simp only [guardK,if_pos hn,hb]
    rw [dopsL_cons]
    simp only [zAf,hev,nextL]
  | _=>rfl
def pairM (e:Option (Heap×Heap)) (l:Option RD):Bool :=
 match e with
 | none=>true
 | some (a,b)=>match l with
  | none=>true
  | some l=>sameAt a b l
theorem pairOk_eq {lds:Lds} {efs:Efs} {i j:Nat}:pairOk lds efs (i,j)=pairM (zA5 efs j) (zA5 lds i):=by
 simp only [pairOk,pairM]
 cases zA5 lds i<;>cases zA5 efs j<;>rfl
theorem pairM_none {l:Option RD}:pairM none l=true:=rfl
theorem pairM_some {a b:Heap} {l:RD}:pairM (some (a,b)) (some l)=sameAt a b l:=rfl
theorem pairM_non {a b:Heap}:pairM (some (a,b)) none=true:=rfl
theorem phantoms_nil:zAt C []=some []:=rfl
def allocT:Op→Option TypeId
 | .alloc T=>some T
 | _=>none
def allocM:Op→Option TypeId
 | .makeMap T none=>some T
 | _=>none
def mapObj:TyD→Option AO
 | .map kt _=>some (.map kt [])
 | _=>none
def phM (o:Option AO) (r:Option Heap):Option Heap :=
 match o,r with
 | some x,some H=>some (x::H)
 | _,_=>none
def phC (o:AO) (r:Option Heap):Option Heap :=
 match r with
 | some H=>some (o::H)
 | none=>none
theorem phC_some {o:AO} {H:Heap}:phC o (some H)=some (o::H):=rfl
theorem phantoms_cons {op:Op}:zAt C (⟨d,op,t,p,a,g⟩::r)=match allocT op with
  | some T=>(match C.ty T with
   | some ty=>if ty.zeroOk then phC (.box ty.zv) (zAt C r) else none
   | none=>none)
  | none=>match allocM op with
   | some T=>(match C.ty T with
    | some ty=>phM (mapObj ty.d) (zAt C r)
    | none=>none)
   | none=>zAt C r:=by
 cases op<;>first | rfl | skip
 case makeMap T m =>
  cases m with
  | some _=>rfl
  | none =>
   simp only [zAt,allocT,allocM]
   cases C.ty T with
   | none=>rfl
   | some ty =>
    obtain ⟨d,s,b,z⟩:=ty
    cases d<;>first | rfl | (simp only [mapObj];cases zAt C r<;>rfl)
 rename_i T
 simp only [zAt,allocT]
 cases C.ty T with
 | none=>rfl
 | some ty =>
  simp only
  split
  ·cases zAt C r<;>rfl
  ·rfl
end
def zA3:Code→Option Nat
 | .region id _ _=>some id
 | .seq a _=>zA3 a
 | .block _ c=>zA3 c
 | .loop c=>zA3 c
 | .scope c=>zA3 c
 | _=>none
def zAa (r:Nat):Code→List Item→Option (List Item)
 | .seq a b,k=>match zAa r a (.code b::k) with
  | some x=>some x
  | none=>zAa r b k
 | .cond _ a b,k=>match zAa r a k with
  | some x=>some x
  | none=>zAa r b k
 | .block id c,k=>zAa r c (.inBlock id::k)
 | .scope c,k=>zAa r c (.inScope c::k)
 | .loop c,k=>if zA3 c=some r then some (.inLoop c::k) else zAa r c (.inLoop c::k)
 | .rangeFunc _ _ _ b,_=>zAa r b []
 | _,_=>none
def zA7 (f:Func) (r:Nat):List Item :=
 match f.body with
 | some c=>match zAa r c [] with
  | some x=>x
  | none=>[]
 | none=>[]
def zAb (f:Func) (r:Nat):Item :=
 match zA7 f r with
 | it::_=>it
 | []=>.code .skip
def zA4 (f:Func) (r:Nat):List Item :=
 match zA7 f r with
 | _::.inBlock _::k=>k
 | _=>[]
section
variable {C:Cfg} {P:Program} {k:List Item} {H:Heap} {e:Env} {df:List ADefer} {pn:Option (AV×Bool)} {fn:FuncId} {dfd:Bool} {b l:Nat}
theorem exec_rng {f:Operand} {ps:Array Tmp} {x y:Code}:zAh C P ⟨fn,none,dfd,b⟩ (.code (.rangeFunc f ps x y)::k) ⟨e,df,H,pn⟩=funcK (opd C e f) fun g first cap =>
  doneK (zAw C P b false g (first++[.func (.yield (H.length+1)) [] []]) cap (H++[.dfr,.loop ⟨.ready,none,fn,e,ps,x,y,H.length⟩]) none) fun d =>
   endLoopL C P ⟨fn,none,dfd,b⟩ k (H.length+1) ⟨e,.collected H.length::df,H,pn⟩ d:=exec_range rfl
theorem exec_begin:zAh C P ⟨fn,some l,dfd,b⟩ (.beginRound::k) ⟨e,df,H,pn⟩=loopK H[l]? fun r=>if r.state=.ready then zAh C P ⟨fn,some l,dfd,b⟩ k ⟨e,df,H.set l (.loop { r with state:=.busy }),pn⟩ else none:=exec_beginRound rfl
theorem endL_ret {F:FI} {L:Nat} {s:St} {v:AV} {H':Heap} {q:Option (AV×Bool)}:endLoopL C P F k L s ⟨.ret v,H',q⟩=loopK H'[L]? fun r=>if r.state=.busy then none else
  zAh C P F ((r.pending.map Item.code).toList++k) ⟨s.env,s.dfr,H'.set L (.loop { r with state:=.exhausted }),s.pan⟩:=by
 rw [endLoopL_eq]
 simp only
 cases H'[L]? with
 | none=>rfl
 | some o=>cases o<;>rfl
theorem leave_round {j:Option Code}:leaveL C P ⟨fn,some l,dfd,b⟩ j ⟨e,df,H,pn⟩=endRound l j ⟨e,df,H,pn⟩:=by
 rw [leaveL_eq]
theorem leave_none:leaveL C P ⟨fn,none,dfd,b⟩ none ⟨e,df,H,pn⟩=unwL C P ⟨fn,none,dfd,b⟩ none ⟨e,df,H,pn⟩:=by
 rw [leaveL_eq]
theorem leave_ret:leaveL C P ⟨fn,none,dfd,b⟩ (some .ret) ⟨e,df,H,pn⟩=unwL C P ⟨fn,none,dfd,b⟩ none ⟨e,df,H,pn⟩:=by
 rw [leaveL_eq]
end
def zAo:Code→List (Array Tmp×Code×Code)
 | .seq a b=>zAo a++zAo b
 | .cond _ a b=>zAo a++zAo b
 | .block _ c=>zAo c
 | .scope c=>zAo c
 | .loop c=>zAo c
 | .rangeFunc _ ps a b=>[(ps,a,b)]
 | _=>[]
def zAq (f:Func) (id:FuncId) (i:Nat) (e:Env) (d:Nat):ALoop :=
 match f.body with
 | some c=>match (zAo c)[i]? with
  | some (ps,a,b)=>⟨.ready,none,id,e,ps,a,b,d⟩
  | none=>⟨.ready,none,id,e,#[],.skip,.skip,d⟩
 | none=>⟨.ready,none,id,e,#[],.skip,.skip,d⟩
def stopAt (c:Nat→Bool):Nat→Nat→Nat
 | j,0=>j
 | j,m+1=>if c j then stopAt c (j+1) m else j+1
theorem lt_irr (n:Nat):(n<n)=False:=by simp
theorem lt_add_f (n k:Nat):(n+k<n)=False:=by simp
theorem fnLt_func {N:Nat} {f:FuncId}:fnLt N (.func f)=true:=rfl
theorem fnLt_method {N:Nat} {n:String}:fnLt N (.method n)=true:=rfl
theorem fnLt_yield {N l:Nat}:fnLt N (.yield l)=decide (l<N):=rfl
section
variable {C:Cfg} {e:Env}
def gslOf:AV→Option RD
 | .gsl l _=>some (.obj l)
 | _=>none
def ptrOf:AV→Option RD
 | .ptr l _=>some (.obj l)
 | .eptr l _ _ _=>some (.obj l)
 | _=>none
def ptrO:AV→Option RD
 | .ptr l _=>some (.obj l)
 | _=>none
theorem ptrO_ptr {l o:Nat}:ptrO (.ptr l o)=some (.obj l):=rfl
def mapOf (C:Cfg) (t:TypeId) (k:AV) (b:Bool):AV→Option RD
 | .map l=>some (if b then .obj l else keyOf C t l k)
 | _=>none
def keyT (C:Cfg) (l:Nat) (k:AV):Option Ty→RD
 | some ⟨.map _ et,_,_,_⟩=>match C.ty et with
  | some te=>if te.zeroOk then .key l k te.zv else .obj l
  | none=>.obj l
 | _=>.obj l
theorem gslOf_sl {f:Bool} {es:List AV}:gslOf (.sl f es)=none:=rfl
theorem ptrOf_ptr {l o:Nat}:ptrOf (.ptr l o)=some (.obj l):=rfl
theorem mapOf_map {C:Cfg} {t:TypeId} {k:AV} {b:Bool} {l:Nat}:mapOf C t k b (.map l)=some (if b then .obj l else keyOf C t l k):=rfl
theorem readOf_load {T:TypeId} {x:Operand}:zAp C e (.load T x)=ptrOf (opd C e x):=by
 simp only [zAp,ptrOf];cases opd C e x<;>rfl
theorem readOf_lookup {T:TypeId} {m x:Operand} {b:Bool}:zAp C e (.lookup T m x b)=mapOf C T (opd C e x) b (opd C e m):=by
 simp only [zAp,mapOf];cases opd C e m<;>rfl
theorem readOf_indexAddr {T:TypeId} {x i:Operand}:zAp C e (.indexAddr T x i)=gslOf (opd C e x):=by
 simp only [zAp,gslOf];cases opd C e x<;>rfl
theorem readOf_fieldAddr {T:TypeId} {x:Operand} {i:Nat}:zAp C e (.fieldAddr T x i)=match C.ty T with
  | some ⟨.struct fs,_,_,_⟩=>match fs[i]? with
   | some (_,ft)=>match C.ty ft with
    | some fy=>if fy.size=0 then ptrO (opd C e x) else none
    | none=>none
   | none=>none
  | _=>none:=by
 simp only [zAp]
 split
 ·split
  ·split
   ·split
    ·cases opd C e x<;>simp_all [ptrO]
    ·simp_all
   ·simp_all
  ·simp_all
 ·simp_all
theorem readOf_move {x:Operand}:zAp C e (.move x)=none:=rfl
theorem readOf_assign {x:Operand}:zAp C e (.assign x)=none:=rfl
theorem readOf_pick {x y z:Operand}:zAp C e (.pick x y z)=none:=rfl
theorem readOf_alloc {T:TypeId}:zAp C e (.alloc T)=none:=rfl
theorem readOf_build {T:TypeId} {ps:Array (Nat×Operand)}:zAp C e (.build T ps)=none:=rfl
theorem readOf_buildSlice {T:TypeId} {n:Nat} {ps:Array (Nat×Operand)}:zAp C e (.buildSlice T n ps)=none:=rfl
theorem readOf_nilCheck {x:Operand}:zAp C e (.nilCheck x)=none:=rfl
theorem readOf_bin {o:BinOp} {T T2:TypeId} {x y:Operand}:zAp C e (.binOp o T x y T2)=none:=rfl
theorem readOf_un {o:UnOp} {T:TypeId} {x:Operand}:zAp C e (.unOp o T x)=none:=rfl
theorem readOf_convert {T T2:TypeId} {x:Operand}:zAp C e (.convert T T2 x)=none:=rfl
theorem readOf_makeInterface {T:TypeId} {x:Operand}:zAp C e (.makeInterface T x)=none:=rfl
theorem readOf_makeFunc {f:Fn} {x y:Array Operand}:zAp C e (.makeFunc f x y)=none:=rfl
theorem readOf_index {T:TypeId} {x i:Operand}:zAp C e (.index T x i)=none:=rfl
theorem readOf_extract {x:Operand} {i:Nat}:zAp C e (.extract x i)=none:=rfl
theorem readOf_call {c:Call}:zAp C e (.call c)=none:=rfl
theorem SlOk.obj {H:Heap} {sz:Nat} {v:AV} {xs:List AV} (h:SlOk H sz v xs):gslOf v=none∨∃ l,gslOf v=some (.obj l)∧l<H.length∧H[l]? = some (.grow sz xs):=by
 obtain ⟨h1,_⟩:=h
 cases v<;>simp only at h1
 ·exact .inl rfl
 ·exact .inr ⟨_,rfl,(List.getElem?_eq_some_iff.1 h1.1).1,h1.1⟩
end
theorem le_maxA (n:Nat):(n≤maxLenA)=(n≤1048576):=propext ⟨fun h=>h,fun h=>h⟩
theorem le_maxAI (n:Int):(n≤((maxLenA:Nat):Int))=(n≤1048576):=propext ⟨fun h=>h,fun h=>h⟩
@[congr] theorem ownK_congr {t t':Bool} {x y:Option Done} (h:t=t'):ownK t x y=ownK t' x y:=by rw [h]
theorem ownK_t {x y:Option Done}:ownK true x y=x:=rfl
theorem ownK_f {x y:Option Done}:ownK false x y=y:=rfl
attribute [go_sem] execL_nil execL_seq exec_region execL_ret execL_skip execL_inBlock execL_inScope execL_label execL_block execL_loop execL_scope exec_cond exec_exit condK_t condK_f jumpK_some gcK_some regK_ok regK_pan opsL_op opsL_guard opsL_nil stepV_some callK_ret callK_pan guardK_tt guardK_ff guardK_tf guardK_ft guardK_tup doneK_some exec_draw drawn_go planK_some phK_some dopsL_op dopsL_guard dopsL_nil Option.some_beq_some Bool.or_self List.filter_cons List.filter_nil phantoms_nil phantoms_cons phC_some ptrO_ptr gslOf_sl opdP_mk partOk_mk ptrOf_ptr mapOf_map readOf_load readOf_lookup readOf_indexAddr readOf_fieldAddr readOf_move readOf_assign readOf_pick readOf_alloc readOf_build readOf_buildSlice readOf_nilCheck readOf_bin readOf_un readOf_convert readOf_makeInterface readOf_makeFunc readOf_index readOf_extract readOf_call List.all_nil List.all_cons pairOk_eq pairM_none pairM_some pairM_non AV.same_refl sameL_refl ev_move ev_assign ev_bin ev_un ev_pick ev_alloc ev_box ev_build ev_buildSlice ev_load ev_store growA_tmp ev_nilCheck ev_convert ev_makeInterface ev_makeFunc ev_makeMap ev_makeSlice ev_slice ev_fieldAddr ev_indexAddr ev_index ev_lookup ev_mapUpdate ev_typeAssert ev_extract ev_call ev_defer ev_panic evLen_sl evLen_gsl evNilS Bool.false_eq_true Bool.true_eq_false Bool.not_true Bool.not_false Bool.and_true Bool.true_and Bool.and_false Bool.false_and Bool.or_true Bool.or_false Option.getD_some Option.getD_none Option.map_some Option.map_none Option.isNone_none List.getElem?_cons_zero List.getElem?_cons_succ List.map_cons List.map_nil List.cons_append List.nil_append List.append_nil List.append_assoc List.length_cons List.length_nil List.length_append exec_rng exec_begin endL_ret leave_round leave_none leave_ret funcK_func loopK_loop callV_yield unwL_collected List.size_toArray List.toList_toArray Option.toList_none Option.toList_some Option.isNone_some unwL_nil unw_fn callVL_func ownK_t ownK_f callVL_method get_at zAe set_at zBs List.set_cons_zero List.set_cons_succ evLoad_ptr evStore_ptr cells_int cells_bool cells_nilp cells_ptr cells_sl cells_gsl cells_map cells_nilmap cells_func cells_nilFunc cells_iface cells_nilIface cells_agg scalar_int scalar_bool scalar_nilp scalar_ptr scalar_sl scalar_gsl scalar_map scalar_nilmap scalar_func scalar_nilFunc scalar_iface scalar_nilIface stored_int stored_bool stored_agg withCells_agg withCells_int withCells_bool withCells_nilp withCells_gsl withCells_nilFunc withCells_nilmap addOff_ptr elems_sl elems_gsl le_maxA le_maxAI List.set_set beq_self_eq_true bne_self_eq_false decide_true decide_false Nat.add_zero Nat.zero_add Nat.add_assoc List.take_succ_cons List.take_zero List.drop_succ_cons List.drop_zero List.take_nil List.drop_nil Nat.le_refl decide_eq_true_eq List.take_left List.take_length and_self List.isEmpty_nil List.isEmpty_cons Bool.true_or Bool.false_or take_set take_setB List.take_length_add_append Nat.lt_add_right_iff_pos Nat.add_lt_add_iff_left List.drop_left List.drop_length List.replicate_succ List.replicate_zero Int.cast_ofNat_Int gt_iff_lt ge_iff_le lt_irr lt_add_f fnLt_func fnLt_method fnLt_yield
attribute [go_sem] gcAt.eq_1 afterOp.eq_1 afterOp.eq_2 afterOp.eq_3 afterOp.eq_4 dstAt.eq_1 dstAt.eq_2 dstAt.eq_3 Env.getO.eq_1 Env.getO.eq_2 afterD.eq_1 afterD.eq_2 hasPr.eq_1 hasPr.eq_2 panEnv.eq_1 badT.eq_1 badT.eq_2 evOpD.eq_1 allocT.eq_1 allocM.eq_1 zAk.eq_1 zAk.eq_2 zAl.eq_1 zAl.eq_2 zAl.eq_3 zAl.eq_4 zAl.eq_5 zAl.eq_6 zAl.eq_7 zAl.eq_8 zAl.eq_9 zAl.eq_10 zAl.eq_11 zAl.eq_12 zAl.eq_13 zAl.eq_14 zAl.eq_15 addLd.eq_1 addLd.eq_2 zA5.eq_1 zA5.eq_2 sameAt.eq_1 sameAt.eq_2 AO.same.eq_1 AO.same.eq_2 AO.same.eq_3 zBi.eq_1 zAv.eq_3 zAv.eq_4 zAv.eq_6 zAv.eq_7 zAv.eq_9 zAv.eq_11 zAv.eq_13 zAv.eq_15 evUn.eq_1 evUn.eq_2 evUn.eq_3 evBin.eq_1 evBin.eq_2 evBin.eq_3 evBin.eq_4 evBin.eq_5 evBin.eq_6 evBin.eq_7 evBin.eq_8 evBin.eq_9 evBin.eq_10 evBin.eq_11 evBin.eq_12 evBin.eq_13 evBin.eq_15 evBin.eq_16 evBin.eq_18 evBin.eq_19 isConst.eq_1 mapV.eq_1 mapV.eq_2 mapH.eq_1 mapH.eq_2 opd.eq_1 opd.eq_2 opd.eq_3 opd.eq_4 Env.get.eq_1 Env.get.eq_2 Env.put.eq_1 Env.put.eq_2 Env.ofArgs.eq_1 Env.ofArgs.eq_2 ofConst.eq_1 zB4.eq_1 zB4.eq_2 zB4.eq_3 zB4.eq_4 zB4.eq_5 zB4.eq_6 zB4.eq_7 endRound.eq_1 Env.params.eq_1 readRes.eq_1 readRes.eq_2 readRes.eq_3 packRes.eq_1 zB0.eq_1 zAy.eq_1 writePart.eq_1 splice.eq_1 AV.lt.eq_1 AV.lt.eq_2 AV.lt.eq_3 AV.lt.eq_4 AV.lt.eq_5 AV.lt.eq_6 AV.lt.eq_7 AV.lt.eq_8 AV.lt.eq_9 ltL.eq_1 ltL.eq_2 AO.lt.eq_1 AO.lt.eq_2 AO.lt.eq_3 AO.lt.eq_4 AO.lt.eq_5 mapLt.eq_1 mapLt.eq_2 zAc.eq_1 zAc.eq_2 elemOk.eq_1 zB9.eq_1 zB9.eq_2 Ty.agg.eq_1 Ty.zeroOk.eq_1 Ty.zv.eq_1 fillA.eq_1 fillA.eq_2 zAz.eq_1 zAz.eq_2 zAz.eq_3 setParts.eq_1 setParts.eq_2 sliceElem.eq_1 sliceElem.eq_2 eqFit.eq_1 fits.eq_1 fits.eq_2 fits.eq_3 zAs.eq_1 evAppend.eq_1 noYield.eq_1 Go.exitTo.eq_1 Go.exitTo.eq_3 zAi.eq_1 sealT.eq_1 sealV.eq_1 sealG.eq_1
theorem sealG_int {H:Heap} {N:Nat} {k:IntKind} {n:Int}:sealG H N (.int k n)=(.int k n):=rfl
theorem sealV_int {H:Heap} {N:Nat} {k:IntKind} {n:Int}:sealV H N (.int k n)=sealG H N (.int k n):=rfl
theorem sealT_int {H:Heap} {N:Nat} {k:IntKind} {n:Int}:sealT H N (.int k n)=sealV H N (.int k n):=rfl
theorem elemOk_int {sz:Nat} {a:Bool} {k:IntKind} {n:Int}:elemOk sz a (.int k n)=(!a&&(sz==1&&AV.scalar (.int k n))):=rfl
theorem isNilSl_int {k:IntKind} {n:Int}:zAs (.int k n)=false:=rfl
theorem lt_int {N:Nat} {k:IntKind} {n:Int}:AV.lt N (.int k n)=true:=rfl
theorem sealG_bool {H:Heap} {N:Nat} {b:Bool}:sealG H N (.bool b)=(.bool b):=rfl
theorem sealV_bool {H:Heap} {N:Nat} {b:Bool}:sealV H N (.bool b)=sealG H N (.bool b):=rfl
theorem sealT_bool {H:Heap} {N:Nat} {b:Bool}:sealT H N (.bool b)=sealV H N (.bool b):=rfl
theorem isNilSl_bool {b:Bool}:zAs (.bool b)=false:=rfl
theorem lt_bool {N:Nat} {b:Bool}:AV.lt N (.bool b)=true:=rfl
theorem isNilSl_nilp  : zAs (.nilp)=false:=rfl
theorem sealG_ptr {H:Heap} {N:Nat} {l o:Nat}:sealG H N (.ptr l o)=(.ptr l o):=rfl
theorem sealV_ptr {H:Heap} {N:Nat} {l o:Nat}:sealV H N (.ptr l o)=sealG H N (.ptr l o):=rfl
theorem sealT_ptr {H:Heap} {N:Nat} {l o:Nat}:sealT H N (.ptr l o)=sealV H N (.ptr l o):=rfl
theorem elemOk_ptr {sz:Nat} {a:Bool} {l o:Nat}:elemOk sz a (.ptr l o)=(!a&&(sz==1&&AV.scalar (.ptr l o))):=rfl
theorem isNilSl_ptr {l o:Nat}:zAs (.ptr l o)=false:=rfl
theorem sealG_sl {H:Heap} {N:Nat} {f:Bool} {es:List AV}:sealG H N (.sl f es)=(.sl f es):=rfl
theorem elemOk_sl {sz:Nat} {a:Bool} {f:Bool} {es:List AV}:elemOk sz a (.sl f es)=(!a&&(sz==1&&AV.scalar (.sl f es))):=rfl
theorem lt_sl {N:Nat} {f:Bool} {es:List AV}:AV.lt N (.sl f es)=true:=rfl
theorem sealV_gsl {H:Heap} {N:Nat} {l n:Nat}:sealV H N (.gsl l n)=sealG H N (.gsl l n):=rfl
theorem sealT_gsl {H:Heap} {N:Nat} {l n:Nat}:sealT H N (.gsl l n)=sealV H N (.gsl l n):=rfl
theorem elemOk_gsl {sz:Nat} {a:Bool} {l n:Nat}:elemOk sz a (.gsl l n)=(!a&&(sz==1&&AV.scalar (.gsl l n))):=rfl
theorem isNilSl_gsl {l n:Nat}:zAs (.gsl l n)=false:=rfl
theorem sealG_map {H:Heap} {N:Nat} {l:Nat}:sealG H N (.map l)=(.map l):=rfl
theorem sealV_map {H:Heap} {N:Nat} {l:Nat}:sealV H N (.map l)=sealG H N (.map l):=rfl
theorem sealT_map {H:Heap} {N:Nat} {l:Nat}:sealT H N (.map l)=sealV H N (.map l):=rfl
theorem isNilSl_map {l:Nat}:zAs (.map l)=false:=rfl
theorem isNilSl_nilmap  : zAs (.nilmap)=false:=rfl
theorem sealG_func {H:Heap} {N:Nat} {fn:Fn} {x y:List AV}:sealG H N (.func fn x y)=(.func fn x y):=rfl
theorem sealV_func {H:Heap} {N:Nat} {fn:Fn} {x y:List AV}:sealV H N (.func fn x y)=sealG H N (.func fn x y):=rfl
theorem sealT_func {H:Heap} {N:Nat} {fn:Fn} {x y:List AV}:sealT H N (.func fn x y)=sealV H N (.func fn x y):=rfl
theorem elemOk_func {sz:Nat} {a:Bool} {fn:Fn} {x y:List AV}:elemOk sz a (.func fn x y)=(!a&&(sz==1&&AV.scalar (.func fn x y))):=rfl
theorem isNilSl_func {fn:Fn} {x y:List AV}:zAs (.func fn x y)=false:=rfl
theorem isNilSl_nilFunc  : zAs (.nilFunc)=false:=rfl
theorem sealG_iface {H:Heap} {N:Nat} {t:TypeId} {x:AV}:sealG H N (.iface t x)=(.iface t x):=rfl
theorem elemOk_iface {sz:Nat} {a:Bool} {t:TypeId} {x:AV}:elemOk sz a (.iface t x)=(!a&&(sz==1&&AV.scalar (.iface t x))):=rfl
theorem isNilSl_iface {t:TypeId} {x:AV}:zAs (.iface t x)=false:=rfl
theorem evBin_iface {op:BinOp} {q:Bool} {t:TypeId} {x:AV} {w:AV}:evBin op q (.iface t x) w=none:=by cases w<;>rfl
theorem isNilSl_nilIface  : zAs (.nilIface)=false:=rfl
theorem evBin_nilIface {op:BinOp} {q:Bool}  {w:AV}:evBin op q (.nilIface) w=none:=by cases w<;>rfl
theorem sealT_agg {H:Heap} {N:Nat} {cs:List AV}:sealT H N (.agg cs)=sealV H N (.agg cs):=rfl
theorem isNilSl_agg {cs:List AV}:zAs (.agg cs)=false:=rfl
theorem isNilSl_slf {es:List AV}:zAs (.sl false es)=false:=rfl
theorem evBin_oand {q:Bool} {k k':IntKind} {x y:Int}:evBin .and q (.int k x) (.int k' y)=if k==k' then (bitsOp .and k x y).map (.int k) else none:=rfl
theorem evBin_oor {q:Bool} {k k':IntKind} {x y:Int}:evBin .or q (.int k x) (.int k' y)=if k==k' then (bitsOp .or k x y).map (.int k) else none:=rfl
theorem isConst_tmp {t:Tmp}:isConst (.tmp t)=false:=rfl
theorem ofConst_int {k:IntKind} {n:Int}:ofConst (.int k n)=zB4 (.int k n):=rfl
theorem ofConst_bool {b:Bool}:ofConst (.bool b)=zB4 (.bool b):=rfl
theorem ofConst_pointer {p:Option Addr}:ofConst (.pointer p)=zB4 (.pointer p):=rfl
theorem ofConst_slice {p:Option Addr} {m n:Nat}:ofConst (.slice p m n)=zB4 (.slice p m n):=rfl
theorem ofConst_map {p:Option Nat}:ofConst (.map p)=zB4 (.map p):=rfl
theorem ofConst_nilFunc  : ofConst (.nilFunc)=zB4 (.nilFunc):=rfl
theorem ofConst_nilIface  : ofConst (.nilIface)=zB4 (.nilIface):=rfl
theorem params_nil {e:Env} {vs:List AV}:Env.params e [] vs=e:=by cases vs<;>rfl
theorem packRes_nil:packRes []=.tup []:=rfl
theorem packRes_two {a b:AV} {r:List AV}:packRes (a::b::r)=.tup (a::b::r):=rfl
theorem noYield_func {f:FuncId}:noYield (.func f)=true:=rfl
theorem noYield_method {s:String}:noYield (.method s)=true:=rfl
theorem exitTo_code {id:Nat} {c:Code} {k:List Item}:Go.exitTo id ((.code c)::k)=Go.exitTo id k:=rfl
theorem exitTo_inLoop {id:Nat} {c:Code} {k:List Item}:Go.exitTo id ((.inLoop c)::k)=Go.exitTo id k:=rfl
theorem evB_len {C:Cfg} {H:Heap} {tys:List TypeId} {args:List AV}:zAv C H .len tys args=(match args,sliceElem C tys with | [x],some _=>(evLen x).map fun v=>.val v H | _,_=>lenM C H tys args):=rfl
theorem lenM_map {C:Cfg} {H:Heap} {t:TypeId} {ts:List TypeId} {l:Nat}:lenM C H (t::ts) [.map l]=match C.ty t with
  | some ⟨.map _ _,_,_,_⟩=>match H[l]? with
   | some (.map _ es)=>some (.val (.int .i64 es.length) H)
   | _=>none
  | _=>none:=rfl
theorem lenMap_value {C:Cfg} {e:Env} {f:Operand} {a:Array Operand} {t:Array TypeId}:lenMap C e ⟨.value f,a,t⟩=false:=rfl
theorem lenMap_invoke {C:Cfg} {e:Env} {f:Operand} {n:String} {a:Array Operand} {t:Array TypeId}:lenMap C e ⟨.invoke f n,a,t⟩=false:=rfl
theorem lenMap_len {C:Cfg} {e:Env} {a:Array Operand} {t:Array TypeId}:lenMap C e ⟨.builtin .len,a,t⟩=isMapL (a.toList.map (opd C e)):=rfl
theorem lenMap_append {C:Cfg} {e:Env} {a:Array Operand} {t:Array TypeId}:lenMap C e ⟨.builtin .append,a,t⟩=false:=rfl
theorem lenMap_copy {C:Cfg} {e:Env} {a:Array Operand} {t:Array TypeId}:lenMap C e ⟨.builtin .copy,a,t⟩=false:=rfl
theorem isMapL_sl {b:Bool} {l:List AV}:isMapL [.sl b l]=false:=rfl
theorem isMapL_gsl {l n:Nat}:isMapL [.gsl l n]=false:=rfl
theorem evB_append {C:Cfg} {H:Heap} {tys:List TypeId} {args:List AV}:zAv C H .append tys args=(match args with | [x,y]=>(evAppend C H tys x y).map fun r=>.val r.1 r.2 | _=>none):=rfl
theorem evB_copy {C:Cfg} {H:Heap} {tys:List TypeId} {args:List AV}:zAv C H .copy tys args=(match args with | [x,y]=>(evCopy C H tys x y).map fun r=>.val r.1 r.2 | _=>none):=rfl
theorem evB_recover {C:Cfg} {H:Heap} {tys:List TypeId} {args:List AV}:zAv C H .recover tys args=(match args with | []=>some .recov | _=>none):=rfl
theorem afterOp_recov {C:Cfg} {P:Program} {F:FI} {all r:List Oper} {d:Option Tmp} {e:Env} {df:List ADefer} {H:Heap} {pn:Option (AV×Bool)}:afterOp C P F all r d e df H pn .recov=match F.round,F.dfd,pn with
  | none,true,some (v,false)=>opsL C P F all r ⟨e.put d v,df,H,some (v,true)⟩
  | none,_,_=>opsL C P F all r ⟨e.put d .nilIface,df,H,pn⟩
  | _,_,_=>none:=rfl
theorem allocT_move {x0:Operand}:allocT (.move x0)=none:=rfl
theorem allocM_move {x0:Operand}:allocM (.move x0)=none:=rfl
theorem isAlloc_move {x0:Operand}:zAk (.move x0)=false:=rfl
theorem isEff_move {x0:Operand}:zAl (.move x0)=false:=rfl
theorem allocT_assign {x0:Operand}:allocT (.assign x0)=none:=rfl
theorem allocM_assign {x0:Operand}:allocM (.assign x0)=none:=rfl
theorem isAlloc_assign {x0:Operand}:zAk (.assign x0)=false:=rfl
theorem isEff_assign {x0:Operand}:zAl (.assign x0)=false:=rfl
theorem allocT_pick {x0:Operand} {x1:Operand} {x2:Operand}:allocT (.pick x0 x1 x2)=none:=rfl
theorem allocM_pick {x0:Operand} {x1:Operand} {x2:Operand}:allocM (.pick x0 x1 x2)=none:=rfl
theorem isAlloc_pick {x0:Operand} {x1:Operand} {x2:Operand}:zAk (.pick x0 x1 x2)=false:=rfl
theorem isEff_pick {x0:Operand} {x1:Operand} {x2:Operand}:zAl (.pick x0 x1 x2)=false:=rfl
theorem allocT_build {x0:TypeId} {x1:(Array (Nat×Operand))}:allocT (.build x0 x1)=none:=rfl
theorem allocM_build {x0:TypeId} {x1:(Array (Nat×Operand))}:allocM (.build x0 x1)=none:=rfl
theorem isAlloc_build {x0:TypeId} {x1:(Array (Nat×Operand))}:zAk (.build x0 x1)=false:=rfl
theorem isEff_build {x0:TypeId} {x1:(Array (Nat×Operand))}:zAl (.build x0 x1)=false:=rfl
theorem allocT_buildSlice {x0:TypeId} {x1:Nat} {x2:(Array (Nat×Operand))}:allocT (.buildSlice x0 x1 x2)=none:=rfl
theorem allocM_buildSlice {x0:TypeId} {x1:Nat} {x2:(Array (Nat×Operand))}:allocM (.buildSlice x0 x1 x2)=none:=rfl
theorem isAlloc_buildSlice {x0:TypeId} {x1:Nat} {x2:(Array (Nat×Operand))}:zAk (.buildSlice x0 x1 x2)=false:=rfl
theorem isEff_buildSlice {x0:TypeId} {x1:Nat} {x2:(Array (Nat×Operand))}:zAl (.buildSlice x0 x1 x2)=false:=rfl
theorem allocT_load {x0:TypeId} {x1:Operand}:allocT (.load x0 x1)=none:=rfl
theorem allocM_load {x0:TypeId} {x1:Operand}:allocM (.load x0 x1)=none:=rfl
theorem isAlloc_load {x0:TypeId} {x1:Operand}:zAk (.load x0 x1)=false:=rfl
theorem isEff_load {x0:TypeId} {x1:Operand}:zAl (.load x0 x1)=false:=rfl
theorem allocT_store {x0:TypeId} {x1:Operand} {x2:Operand}:allocT (.store x0 x1 x2)=none:=rfl
theorem allocM_store {x0:TypeId} {x1:Operand} {x2:Operand}:allocM (.store x0 x1 x2)=none:=rfl
theorem isAlloc_store {x0:TypeId} {x1:Operand} {x2:Operand}:zAk (.store x0 x1 x2)=false:=rfl
theorem allocT_nilCheck {x0:Operand}:allocT (.nilCheck x0)=none:=rfl
theorem allocM_nilCheck {x0:Operand}:allocM (.nilCheck x0)=none:=rfl
theorem isAlloc_nilCheck {x0:Operand}:zAk (.nilCheck x0)=false:=rfl
theorem isEff_nilCheck {x0:Operand}:zAl (.nilCheck x0)=false:=rfl
theorem allocT_binOp {x0:BinOp} {x1:TypeId} {x2:Operand} {x3:Operand} {x4:TypeId}:allocT (.binOp x0 x1 x2 x3 x4)=none:=rfl
theorem allocM_binOp {x0:BinOp} {x1:TypeId} {x2:Operand} {x3:Operand} {x4:TypeId}:allocM (.binOp x0 x1 x2 x3 x4)=none:=rfl
theorem isAlloc_binOp {x0:BinOp} {x1:TypeId} {x2:Operand} {x3:Operand} {x4:TypeId}:zAk (.binOp x0 x1 x2 x3 x4)=false:=rfl
theorem isEff_binOp {x0:BinOp} {x1:TypeId} {x2:Operand} {x3:Operand} {x4:TypeId}:zAl (.binOp x0 x1 x2 x3 x4)=false:=rfl
theorem allocT_unOp {x0:UnOp} {x1:TypeId} {x2:Operand}:allocT (.unOp x0 x1 x2)=none:=rfl
theorem allocM_unOp {x0:UnOp} {x1:TypeId} {x2:Operand}:allocM (.unOp x0 x1 x2)=none:=rfl
theorem isAlloc_unOp {x0:UnOp} {x1:TypeId} {x2:Operand}:zAk (.unOp x0 x1 x2)=false:=rfl
theorem isEff_unOp {x0:UnOp} {x1:TypeId} {x2:Operand}:zAl (.unOp x0 x1 x2)=false:=rfl
theorem allocT_convert {x0:TypeId} {x1:TypeId} {x2:Operand}:allocT (.convert x0 x1 x2)=none:=rfl
theorem allocM_convert {x0:TypeId} {x1:TypeId} {x2:Operand}:allocM (.convert x0 x1 x2)=none:=rfl
theorem isAlloc_convert {x0:TypeId} {x1:TypeId} {x2:Operand}:zAk (.convert x0 x1 x2)=false:=rfl
theorem isEff_convert {x0:TypeId} {x1:TypeId} {x2:Operand}:zAl (.convert x0 x1 x2)=false:=rfl
theorem allocT_makeInterface {x0:TypeId} {x1:Operand}:allocT (.makeInterface x0 x1)=none:=rfl
theorem allocM_makeInterface {x0:TypeId} {x1:Operand}:allocM (.makeInterface x0 x1)=none:=rfl
theorem isAlloc_makeInterface {x0:TypeId} {x1:Operand}:zAk (.makeInterface x0 x1)=false:=rfl
theorem isEff_makeInterface {x0:TypeId} {x1:Operand}:zAl (.makeInterface x0 x1)=false:=rfl
theorem allocT_makeFunc {x0:Fn} {x1:(Array Operand)} {x2:(Array Operand)}:allocT (.makeFunc x0 x1 x2)=none:=rfl
theorem allocM_makeFunc {x0:Fn} {x1:(Array Operand)} {x2:(Array Operand)}:allocM (.makeFunc x0 x1 x2)=none:=rfl
theorem isAlloc_makeFunc {x0:Fn} {x1:(Array Operand)} {x2:(Array Operand)}:zAk (.makeFunc x0 x1 x2)=false:=rfl
theorem isEff_makeFunc {x0:Fn} {x1:(Array Operand)} {x2:(Array Operand)}:zAl (.makeFunc x0 x1 x2)=false:=rfl
theorem allocT_makeSlice {x0:TypeId} {x1:Operand} {x2:Operand}:allocT (.makeSlice x0 x1 x2)=none:=rfl
theorem allocM_makeSlice {x0:TypeId} {x1:Operand} {x2:Operand}:allocM (.makeSlice x0 x1 x2)=none:=rfl
theorem isAlloc_makeSlice {x0:TypeId} {x1:Operand} {x2:Operand}:zAk (.makeSlice x0 x1 x2)=false:=rfl
theorem allocT_fieldAddr {x0:TypeId} {x1:Operand} {x2:Nat}:allocT (.fieldAddr x0 x1 x2)=none:=rfl
theorem allocM_fieldAddr {x0:TypeId} {x1:Operand} {x2:Nat}:allocM (.fieldAddr x0 x1 x2)=none:=rfl
theorem isAlloc_fieldAddr {x0:TypeId} {x1:Operand} {x2:Nat}:zAk (.fieldAddr x0 x1 x2)=false:=rfl
theorem isEff_fieldAddr {x0:TypeId} {x1:Operand} {x2:Nat}:zAl (.fieldAddr x0 x1 x2)=false:=rfl
theorem allocT_indexAddr {x0:TypeId} {x1:Operand} {x2:Operand}:allocT (.indexAddr x0 x1 x2)=none:=rfl
theorem allocM_indexAddr {x0:TypeId} {x1:Operand} {x2:Operand}:allocM (.indexAddr x0 x1 x2)=none:=rfl
theorem isAlloc_indexAddr {x0:TypeId} {x1:Operand} {x2:Operand}:zAk (.indexAddr x0 x1 x2)=false:=rfl
theorem isEff_indexAddr {x0:TypeId} {x1:Operand} {x2:Operand}:zAl (.indexAddr x0 x1 x2)=false:=rfl
theorem allocT_index {x0:TypeId} {x1:Operand} {x2:Operand}:allocT (.index x0 x1 x2)=none:=rfl
theorem allocM_index {x0:TypeId} {x1:Operand} {x2:Operand}:allocM (.index x0 x1 x2)=none:=rfl
theorem isAlloc_index {x0:TypeId} {x1:Operand} {x2:Operand}:zAk (.index x0 x1 x2)=false:=rfl
theorem isEff_index {x0:TypeId} {x1:Operand} {x2:Operand}:zAl (.index x0 x1 x2)=false:=rfl
theorem allocT_lookup {x0:TypeId} {x1:Operand} {x2:Operand} {x3:Bool}:allocT (.lookup x0 x1 x2 x3)=none:=rfl
theorem allocM_lookup {x0:TypeId} {x1:Operand} {x2:Operand} {x3:Bool}:allocM (.lookup x0 x1 x2 x3)=none:=rfl
theorem isAlloc_lookup {x0:TypeId} {x1:Operand} {x2:Operand} {x3:Bool}:zAk (.lookup x0 x1 x2 x3)=false:=rfl
theorem isEff_lookup {x0:TypeId} {x1:Operand} {x2:Operand} {x3:Bool}:zAl (.lookup x0 x1 x2 x3)=false:=rfl
theorem allocT_mapUpdate {x0:TypeId} {x1:Operand} {x2:Operand} {x3:Operand}:allocT (.mapUpdate x0 x1 x2 x3)=none:=rfl
theorem allocM_mapUpdate {x0:TypeId} {x1:Operand} {x2:Operand} {x3:Operand}:allocM (.mapUpdate x0 x1 x2 x3)=none:=rfl
theorem isAlloc_mapUpdate {x0:TypeId} {x1:Operand} {x2:Operand} {x3:Operand}:zAk (.mapUpdate x0 x1 x2 x3)=false:=rfl
theorem allocT_extract {x0:Operand} {x1:Nat}:allocT (.extract x0 x1)=none:=rfl
theorem allocM_extract {x0:Operand} {x1:Nat}:allocM (.extract x0 x1)=none:=rfl
theorem isAlloc_extract {x0:Operand} {x1:Nat}:zAk (.extract x0 x1)=false:=rfl
theorem isEff_extract {x0:Operand} {x1:Nat}:zAl (.extract x0 x1)=false:=rfl
theorem allocT_call {x0:Call}:allocT (.call x0)=none:=rfl
theorem allocM_call {x0:Call}:allocM (.call x0)=none:=rfl
theorem isAlloc_call {x0:Call}:zAk (.call x0)=false:=rfl
theorem isEff_alloc {t:TypeId}:zAl (.alloc t)=false:=rfl
theorem isEff_cappend  {a:Array Operand} {ts:Array TypeId}:zAl (.call ⟨(.builtin .append),a,ts⟩)=true:=rfl
theorem isEff_ccopy  {a:Array Operand} {ts:Array TypeId}:zAl (.call ⟨(.builtin .copy),a,ts⟩)=true:=rfl
theorem eqOk_iface {C:Cfg} {t0:TypeId} {t:TypeId} {x:AV} {y0:AV}:eqOk C t0 (.iface t x) y0=(eqFit C t0 (.iface t x)&&eqFit C t0 y0):=rfl
theorem eqOk_nilIface {C:Cfg} {t0:TypeId}  {y0:AV}:eqOk C t0 (.nilIface) y0=(eqFit C t0 (.nilIface)&&eqFit C t0 y0):=rfl
theorem eqOk_agg {C:Cfg} {t0:TypeId} {cs:List AV} {y0:AV}:eqOk C t0 (.agg cs) y0=(eqFit C t0 (.agg cs)&&eqFit C t0 y0):=rfl
attribute [go_sem] sealG_int sealV_int sealT_int elemOk_int isNilSl_int lt_int sealG_bool sealV_bool sealT_bool isNilSl_bool lt_bool isNilSl_nilp sealG_ptr sealV_ptr sealT_ptr elemOk_ptr isNilSl_ptr sealG_sl elemOk_sl lt_sl sealV_gsl sealT_gsl elemOk_gsl isNilSl_gsl sealG_map sealV_map sealT_map isNilSl_map isNilSl_nilmap sealG_func sealV_func sealT_func elemOk_func isNilSl_func isNilSl_nilFunc sealG_iface elemOk_iface isNilSl_iface evBin_iface isNilSl_nilIface evBin_nilIface sealT_agg isNilSl_agg isNilSl_slf evBin_oand evBin_oor isConst_tmp ofConst_int ofConst_bool ofConst_pointer ofConst_slice ofConst_map ofConst_nilFunc ofConst_nilIface params_nil packRes_nil packRes_two noYield_func noYield_method exitTo_code exitTo_inLoop evB_len lenM_map lenMap_value lenMap_invoke lenMap_len lenMap_append lenMap_copy isMapL_sl isMapL_gsl evB_append evB_copy evB_recover afterOp_recov allocT_move allocM_move isAlloc_move isEff_move allocT_assign allocM_assign isAlloc_assign isEff_assign allocT_pick allocM_pick isAlloc_pick isEff_pick allocT_build allocM_build isAlloc_build isEff_build allocT_buildSlice allocM_buildSlice isAlloc_buildSlice isEff_buildSlice allocT_load allocM_load isAlloc_load isEff_load allocT_store allocM_store isAlloc_store allocT_nilCheck allocM_nilCheck isAlloc_nilCheck isEff_nilCheck allocT_binOp allocM_binOp isAlloc_binOp isEff_binOp allocT_unOp allocM_unOp isAlloc_unOp isEff_unOp allocT_convert allocM_convert isAlloc_convert isEff_convert allocT_makeInterface allocM_makeInterface isAlloc_makeInterface isEff_makeInterface allocT_makeFunc allocM_makeFunc isAlloc_makeFunc isEff_makeFunc allocT_makeSlice allocM_makeSlice isAlloc_makeSlice allocT_fieldAddr allocM_fieldAddr isAlloc_fieldAddr isEff_fieldAddr allocT_indexAddr allocM_indexAddr isAlloc_indexAddr isEff_indexAddr allocT_index allocM_index isAlloc_index isEff_index allocT_lookup allocM_lookup isAlloc_lookup isEff_lookup allocT_mapUpdate allocM_mapUpdate isAlloc_mapUpdate allocT_extract allocM_extract isAlloc_extract isEff_extract allocT_call allocM_call isAlloc_call isEff_alloc isEff_cappend isEff_ccopy eqOk_iface eqOk_nilIface eqOk_agg
theorem gcSeal_mk {F:FI} {L:List Nat} {m:Nat} {N:List NT} {e:Env} {df:List ADefer} {H:Heap} {pn:Option (AV×Bool)}:gcSeal F L m N ⟨e,df,H,pn⟩ =
  if envLt (F.base+m) (sealE H (F.base+m) (zB3 e L))&&(heapLt (F.base+m) ((H.take F.base++sealH H (F.base+m) ((H.drop F.base).take m)).drop F.base)&&dfrLt (F.base+m) df) then
   some (nilSt F.base N ⟨sealE H (F.base+m) (zB3 e L),df,H.take F.base++sealH H (F.base+m) ((H.drop F.base).take m),pn⟩) else none:=rfl
theorem sealE_nil {H:Heap} {N:Nat}:sealE H N []=[]:=rfl
theorem sealE_cons {H:Heap} {N k:Nat} {v:AV} {r:Env}:sealE H N ((k,v)::r)=(k,if v.lt N then v else sealP H N v)::sealE H N r:=rfl
def vpA (l o:Nat) (w:AV):AV:=if w.lt 0 then .vptr w o else .ptr l o
def boxA (l o:Nat):Option AO→AV
 | some (.box w)=>vpA l o w
 | _=>.ptr l o
theorem sealP_gsl {H:Heap} {N l n:Nat}:sealP H N (.gsl l n)=sealV H N (.gsl l n):=rfl
attribute [go_sem] sealP_gsl
theorem sealH_nil {H:Heap} {N:Nat}:sealH H N []=[]:=rfl
theorem sealH_cons {H:Heap} {N:Nat} {o:AO} {r:Heap}:sealH H N (o::r)=(if o.lt N then o else sealB H N o)::sealH H N r:=rfl
theorem sealB_box {H:Heap} {N:Nat} {v:AV}:sealB H N (.box v)=.box (sealV H N v):=rfl
theorem nilSt_nil {b:Nat} {s:St}:nilSt b [] s=s:=rfl
attribute [go_sem] gcSeal_mk sealE_nil sealE_cons sealH_nil sealH_cons sealB_box nilSt_nil
def mapT (v:AV) (o:Option Heap):Option OpR :=
 match o with
 | some H=>some (.val v H)
 | none=>none
attribute [go_sem] true_and Option.getD_some Option.getD_none
theorem ev_range {C:Cfg} {P:Program} {F:FI} {H:Heap} {e:Env} {d:Option Tmp} {t:TypeId} {p:String} {a:Array Edge} {g:Option (Nat×Bool)} {T:TypeId} {x:Operand}:evOp C P F H e ⟨d,.range T x,t,p,a,g⟩=match C.ty T with
  | some ⟨.map _ _,_,_,_⟩=>match opd C e x with
   | .map l=>match H[l]? with
    | some (.map _ es)=>some (.val (.ptr H.length 0) (H++[.iter l es.length []]))
    | some (.dmap _ es _)=>some (.val (.ptr H.length 0) (H++[.iter l es.length []]))
    | _=>none
   | _=>none
  | _=>none:=rfl
theorem ev_entry {C:Cfg} {P:Program} {F:FI} {H:Heap} {e:Env} {d:Option Tmp} {t:TypeId} {p:String} {a:Array Edge} {g:Option (Nat×Bool)} {x:Operand}:evOp C P F H e ⟨d,.entry x,t,p,a,g⟩=match opd C e x with
  | .ptr l 0=>match H[l]? with
   | some (.iter m n seen)=>match H[m]?,seen.getLast? with
    | some (.map _ es),some i=>if es.length=n then (match es[i]? with
     | some (k,v)=>some (.val (.tup [k,v]) H)
     | none=>none) else none
    | some (.dmap _ es d),some i=>if es.length=n∧i≠d then (match es[i]? with
     | some (k,v)=>some (.val (.tup [k,v]) H)
     | none=>none) else none
    | _,_=>none
   | _=>none
  | _=>none:=rfl
attribute [go_sem] nxK_f nxK_t isNext.eq_1 isNext.eq_2 ev_range ev_entry List.getLast?_append List.getLast?_singleton List.getLast?_concat Option.some_or
theorem exec_nx {C:Cfg} {P:Program} {F:FI} {k:List Item} {s:St} {e:Env} {df:List ADefer} {H:Heap} {pn:Option (AV×Bool)} {id:Nat} {d:Option Tmp} {it:Operand} {t:TypeId} {p:String} {a:Array Edge} {r:List Oper} {li m n:Nat} {seen:List Nat} {kt:TypeId} {es:List (AV×AV)} {D:Done}
  (hg:gcAt C F id s=some ⟨e,df,H,pn⟩) (h1:opd C e it=.ptr li 0) (h2:H[li]? = some (.iter m n seen)) (h3:H[m]? = some (.map kt es)) (h4:es.length=n)
  (hend:(∀ i,i<n→i∈seen)→regK (opsL C P F (⟨d,.next it false,t,p,a,none⟩::r) r ⟨e.put d (.tup [.bool false]),df,H.set li (.iter m n seen),pn⟩) (fun s'=>zAh C P F k s') (fun v s'=>unwL C P F (some (v,false)) s')=some D)
  (hgo:∀ i,i<n→i ∉ seen→regK (opsL C P F (⟨d,.next it false,t,p,a,none⟩::r) r ⟨e.put d (.tup [.bool true,(es.getD i (.undef,.undef)).1,(es.getD i (.undef,.undef)).2]),df,H.set li (.iter m n (seen++[i])),pn⟩) (fun s'=>zAh C P F k s') (fun v s'=>unwL C P F (some (v,false)) s')=some D) :
  nextR C P F id (⟨d,.next it false,t,p,a,none⟩::r) k s=some D:=by
 unfold nextR
 have hn:nextOf C (⟨d,.next it false,t,p,a,none⟩::r) ⟨e,df,H,pn⟩=some ((nextVals es seen).map fun q=>⟨e.put d q.1,df,H.set li (.iter m n q.2),pn⟩):=by
  simp only [nextOf,h1,h2,h3,h4,if_true]
 have hne:nextVals es seen≠[]:=by
  simp only [nextVals]
  split
  ·simp
  ·rename_i hne;simpa using hne
 have reg:∀ s2:St,(match opsL C P F (⟨d,.next it false,t,p,a,none⟩::r) r s2 with
   | some (.ok s')=>zAh C P F k s'
   | some (.pan v s')=>unwL C P F (some (v,false)) s'
   | none=>none)=regK (opsL C P F (⟨d,.next it false,t,p,a,none⟩::r) r s2) (fun s'=>zAh C P F k s') (fun v s'=>unwL C P F (some (v,false)) s'):=by
  intro s2
  cases opsL C P F (⟨d,.next it false,t,p,a,none⟩::r) r s2 with
  | none=>rfl
  | some x=>cases x<;>rfl
 refine execL_next (by rfl) hg hn (by simpa using hne) fun s2 hs=>?_
 obtain ⟨q,hq,rfl⟩:=List.mem_map.1 hs
 refine (reg _).trans ?_
 simp only [nextVals] at hq
 split at hq
 ·rename_i he
  rw [List.mem_singleton] at hq
  subst hq
  refine hend fun i hi=>?_
  refine Classical.byContradiction fun hc=>?_
  have:i∈(List.range es.length).filter (fun i=>!seen.contains i):=List.mem_filter.2 ⟨List.mem_range.2 (by omega),by simpa using hc⟩
  rw [he] at this
  simp at this
 ·obtain ⟨i,hi,rfl⟩:=List.mem_map.1 hq
  obtain ⟨g1,g2⟩:=List.mem_filter.1 hi
  exact hgo i (by have:=List.mem_range.1 g1;omega) (by simpa using g2)
def KW (C:Cfg) (P:Program) (a:KSt) (Q:Done→Prop):Prop:=KRun C P (kXL C P) a Q
def endP (o:Option Done) (Q:Done→Prop):Prop:=match o with
 | some d=>Q d
 | none=>False
@[congr] theorem endP_congr {o o':Option Done} {Q:Done→Prop} (h:o=o'):endP o Q=endP o' Q:=by rw [h]
theorem endP_some {d:Done} {Q:Done→Prop}:endP (some d) Q=Q d:=rfl
def condP (v:AV) (s:St) (a b:St→Prop):Prop:=match v with
 | .bool true=>a s
 | .bool false=>b s
 | _=>False
@[congr] theorem condP_congr {v v':AV} {s:St} {a b:St→Prop} (h:v=v'):condP v s a b=condP v' s a b:=by rw [h]
theorem condP_t {s:St} {a b:St→Prop}:condP (.bool true) s a b=a s:=rfl
theorem condP_f {s:St} {a b:St→Prop}:condP (.bool false) s a b=b s:=rfl
def jumpP (o:Option (List Item)) (k:List Item→Prop):Prop:=match o with
 | some x=>k x
 | none=>False
@[congr] theorem jumpP_congr {o o':Option (List Item)} {k:List Item→Prop} (h:o=o'):jumpP o k=jumpP o' k:=by rw [h]
theorem jumpP_some {x:List Item} {k:List Item→Prop}:jumpP (some x) k=k x:=rfl
def gcP (o:Option St) (k:St→Prop):Prop:=match o with
 | some x=>k x
 | none=>False
@[congr] theorem gcP_congr {o o':Option St} {k:St→Prop} (h:o=o'):gcP o k=gcP o' k:=by rw [h]
theorem gcP_some {x:St} {k:St→Prop}:gcP (some x) k=k x:=rfl
def rrP (o:Option RR) (k:St→Prop):Prop:=match o with
 | some (.ok s)=>k s
 | _=>False
@[congr] theorem rrP_congr {o o':Option RR} {k:St→Prop} (h:o=o'):rrP o k=rrP o' k:=by rw [h]
theorem rrP_ok {x:St} {k:St→Prop}:rrP (some (.ok x)) k=k x:=rfl
def opP (o:Option OpR) (k:OpR→Prop):Prop:=match o with
 | some x=>k x
 | none=>False
@[congr] theorem opP_congr {o o':Option OpR} {k:OpR→Prop} (h:o=o'):opP o k=opP o' k:=by rw [h]
theorem opP_some {x:OpR} {k:OpR→Prop}:opP (some x) k=k x:=rfl
def callP (o:Option Done) (k:AV→Heap→Prop):Prop:=match o with
 | some ⟨.ret v,H',_⟩=>k v H'
 | _=>False
@[congr] theorem callP_congr {o o':Option Done} {k:AV→Heap→Prop} (h:o=o'):callP o k=callP o' k:=by rw [h]
theorem callP_ret {v:AV} {H:Heap} {q:Option (AV×Bool)} {k:AV→Heap→Prop}:callP (some ⟨.ret v,H,q⟩) k=k v H:=rfl
def kfP (o:Option FuncId) (x:FuncId→Prop) (y:Prop):Prop:=match o with
 | some g=>x g
 | none=>y
@[congr] theorem kfP_congr {o o':Option FuncId} {x:FuncId→Prop} {y:Prop} (h:o=o'):kfP o x y=kfP o' x y:=by rw [h]
theorem kfP_some {g:FuncId} {x:FuncId→Prop} {y:Prop}:kfP (some g) x y=x g:=rfl
theorem kfP_none {x:FuncId→Prop} {y:Prop}:kfP none x y=y:=rfl
def nxP (b:Bool) (x y:Prop):Prop:=match b with
 | true=>x
 | false=>y
@[congr] theorem nxP_congr {b b':Bool} {x y:Prop} (h:b=b'):nxP b x y=nxP b' x y:=by rw [h]
theorem nxP_t {x y:Prop}:nxP true x y=x:=rfl
theorem nxP_f {x y:Prop}:nxP false x y=y:=rfl
def fnP (v:AV) (k:Fn→List AV→List AV→Prop):Prop:=match v with
 | .func f a b=>k f a b
 | _=>False
@[congr] theorem fnP_congr {v v':AV} {k:Fn→List AV→List AV→Prop} (h:v=v'):fnP v k=fnP v' k:=by rw [h]
theorem fnP_func {f:Fn} {a b:List AV} {k:Fn→List AV→List AV→Prop}:fnP (.func f a b) k=k f a b:=rfl
def loopP (o:Option AO) (k:ALoop→Prop):Prop:=match o with
 | some (.loop r)=>k r
 | _=>False
@[congr] theorem loopP_congr {o o':Option AO} {k:ALoop→Prop} (h:o=o'):loopP o k=loopP o' k:=by rw [h]
theorem loopP_loop {r:ALoop} {k:ALoop→Prop}:loopP (some (.loop r)) k=k r:=rfl
def ownF (b:Bool) (g:FuncId):Option FuncId:=match b with
 | true=>some g
 | false=>none
theorem ownF_t {g:FuncId}:ownF true g=some g:=rfl
theorem ownF_f {g:FuncId}:ownF false g=none:=rfl
section
variable {C:Cfg} {P:Program} {F:FI} {k:List Item} {H:Heap} {e:Env} {df:List ADefer} {pn:Option (AV×Bool)} {d:Option Tmp} {t:TypeId} {p:String} {a:Array Edge} {all r:List Oper} {s:St} {Q:Done→Prop}
theorem kFn_func {g:FuncId}:kFn C (.func g)=ownF (C.grow g 999996) g:=by
 cases h:C.grow g 999996<;>simp [kFn,ownF,h]
theorem kFn_yield {l:Nat}:kFn C (.yield l)=none:=rfl
theorem kFn_method {n:String}:kFn C (.method n)=none:=rfl
theorem kw_alts {x:KSt} {l:List KSt} (h:zAn C P (kXL C P) x=.alts l):KW C P x Q=(l≠[]∧∀ b∈l,KW C P b Q):=by
 refine propext ⟨fun h'=>?_,fun h'=>.alts h h'.1 h'.2⟩
 cases h' with
 | done g=>rw [h] at g;cases g
 | alts g g2 g3=>rw [h] at g;cases g;exact ⟨g2,g3⟩
 | call g=>rw [h] at g;cases g
theorem kw_alt {x b:KSt} (h:zAn C P (kXL C P) x=.alts [b]):KW C P x Q=KW C P b Q:=by
 rw [kw_alts h];simp
theorem kw_done {x:KSt} {D:Done} (h:zAn C P (kXL C P) x=.done D):KW C P x Q=Q D:=by
 refine propext ⟨fun h'=>?_,fun h'=>.done h h'⟩
 cases h' with
 | done g g2=>rw [h] at g;cases g;exact g2
 | alts g g2 g3=>rw [h] at g;cases g
 | call g=>rw [h] at g;cases g
theorem zBm {x:KSt} (h:zAn C P (kXL C P) x=.none):KW C P x Q=False:=by
 refine propext ⟨fun h'=>?_,False.elim⟩
 cases h' with
 | done g g2=>rw [h] at g;cases g
 | alts g g2 g3=>rw [h] at g;cases g
 | call g=>rw [h] at g;cases g
theorem kw_call {x b:KSt} {f:Done→KSt} (h:zAn C P (kXL C P) x=.call b f):KW C P x Q=KW C P b (fun D=>KW C P (f D) Q):=by
 refine propext ⟨fun h'=>?_,fun h'=>.call h h' fun _ hd=>hd⟩
 cases h' with
 | done g g2=>rw [h] at g;cases g
 | alts g g2 g3=>rw [h] at g;cases g
 | call g g2 g3=>rw [h] at g;cases g;exact kRun_imp g2 g3
theorem kw_fin {D:Done}:KW C P (.fin D) Q=Q D:=kw_done rfl
theorem kw_skip:KW C P (.exec F (.code .skip::k) s) Q=KW C P (.exec F k s) Q:=kw_alt rfl
theorem kw_inBlock {id:Nat}:KW C P (.exec F (.inBlock id::k) s) Q=KW C P (.exec F k s) Q:=kw_alt rfl
theorem kw_inScope {x:Code}:KW C P (.exec F (.inScope x::k) s) Q=KW C P (.exec F k s) Q:=kw_alt rfl
theorem kw_label {l:Nat}:KW C P (.exec F (.code (.label l)::k) s) Q=KW C P (.exec F k s) Q:=kw_alt rfl
theorem kw_seq {x y:Code}:KW C P (.exec F (.code (.seq x y)::k) s) Q=KW C P (.exec F (.code x::.code y::k) s) Q:=kw_alt rfl
theorem kw_block {id:Nat} {x:Code}:KW C P (.exec F (.code (.block id x)::k) s) Q=KW C P (.exec F (.code x::.inBlock id::k) s) Q:=kw_alt rfl
theorem kw_loop {x:Code}:KW C P (.exec F (.code (.loop x)::k) s) Q=KW C P (.exec F (.inLoop x::k) s) Q:=by
 rw [kw_alt (b:=.exec F (.code x::.inLoop x::k) s) rfl]
 exact (kw_alt rfl).symm
theorem kw_inLoop {x:Code}:KW C P (.exec F (.inLoop x::k) s) Q=KW C P (.exec F (.code x::.inLoop x::k) s) Q:=kw_alt rfl
theorem kw_scope {x:Code}:KW C P (.exec F (.code (.scope x)::k) s) Q=KW C P (.exec F (.code x::.inScope x::k) s) Q:=kw_alt rfl
theorem kw_end {j:Option Code} {x:KSt} (h:zAn C P (kXL C P) x=kDone (leaveL C P F j s)):KW C P x Q=endP (leaveL C P F j s) Q:=by
 cases e:leaveL C P F j s with
 | none=>rw [e] at h;exact zBm h
 | some D=>rw [e] at h;exact kw_done h
theorem kw_nil:KW C P (.exec F [] s) Q=endP (leaveL C P F none s) Q:=kw_end rfl
theorem kw_ret:KW C P (.exec F (.code .ret::k) s) Q=endP (leaveL C P F (some .ret) s) Q:=kw_end rfl
theorem kw_cond {c:Operand} {x y:Code}:KW C P (.exec F (.code (.cond c x y)::k) ⟨e,df,H,pn⟩) Q=condP (opd C e c) ⟨e,df,H,pn⟩ (fun s=>KW C P (.exec F (.code x::k) s) Q) (fun s=>KW C P (.exec F (.code y::k) s) Q):=by
 cases h:opd C e c with
 | bool b=>cases b<;>exact kw_alt (by simp only [zAn,h])
 | _=>exact zBm (by simp only [zAn,h])
theorem kw_exit {id:Nat}:KW C P (.exec F (.code (.exit id)::k) s) Q=jumpP (exitTo id k) fun k'=>KW C P (.exec F k' s) Q:=by
 cases h:exitTo id k with
 | none=>exact zBm (by simp only [zAn,h])
 | some k'=>exact kw_alt (by simp only [zAn,h])
def kNext (C:Cfg) (P:Program) (F:FI) (id:Nat) (l:List Oper) (k:List Item) (s:St) (Q:Done→Prop):Prop:=KW C P (.exec F (.code (.region id l.toArray false)::k) s) Q
theorem kw_region {id:Nat} {l:List Oper}:KW C P (.exec F (.code (.region id l.toArray false)::k) s) Q=nxP (isNext l) (kNext C P F id l k s Q) (gcP (gcAt C F id s) fun s'=>KW C P (.ops F l l k s') Q):=by
 cases hi:isNext l with
 | true=>rfl
 | false =>
  rw [nxP_f]
  cases h:gcAt C F id s with
  | none=>exact zBm (by simp only [zAn,h])
  | some s'=>exact kw_alt (by simp [zAn,h,hi])
theorem kw_draw {id:Nat} {l:List Oper}:KW C P (.exec F (.code (.region id l.toArray true)::k) s) Q=gcP (gcAt C F id s) fun s'=>rrP (drawnL C P F id l.toArray s') fun s'=>KW C P (.exec F k s') Q:=by
 cases h:gcAt C F id s with
 | none=>exact zBm (by simp only [zAn,h])
 | some s' =>
  rw [gcP_some]
  cases h2:drawnL C P F id l.toArray s' with
  | none=>exact zBm (by simp only [zAn,h,if_true,kXL,h2,kExec])
  | some x =>
   cases x with
   | ok s''=>exact kw_alt (by simp only [zAn,h,if_true,kXL,h2,kExec])
   | pan v s''=>exact zBm (by simp only [zAn,h,if_true,kXL,h2,kExec])
theorem kw_opsNil:KW C P (.ops F all [] k s) Q=KW C P (.exec F k s) Q:=kw_alt rfl
def afterP (C:Cfg) (P:Program) (F:FI) (all r:List Oper) (k:List Item) (d:Option Tmp) (e:Env) (df:List ADefer) (H:Heap) (pn:Option (AV×Bool)) (Q:Done→Prop):OpR→Prop
 | .val v H'=>KW C P (.ops F all r k ⟨e.put d v,df,H',pn⟩) Q
 | .call f a c=>kfP (kFn C f) (fun g=>KW C P (.call g (a++c) H) fun D=>KW C P (kRet F all r k e d df pn D) Q)
   (callP (zAw C P F.base false f a c H none) fun v H'=>KW C P (.ops F all r k ⟨e.put d v,df,H',pn⟩) Q)
 | _=>False
theorem kRet_ret {v:AV} {q:Option (AV×Bool)}:kRet F all r k e d df pn ⟨.ret v,H,q⟩=.ops F all r k ⟨e.put d v,df,H,pn⟩:=rfl
theorem kw_op {op:Op}:KW C P (.ops F all (⟨d,op,t,p,a,none⟩::r) k ⟨e,df,H,pn⟩) Q=opP (evOp C P F H e ⟨d,op,t,p,a,none⟩) (afterP C P F all r k d e df H pn Q):=by
 cases h:evOp C P F H e ⟨d,op,t,p,a,none⟩ with
 | none=>exact zBm (by simp only [zAn,zAf,h,kOp])
 | some x =>
  rw [opP_some]
  cases x with
  | val v H'=>exact kw_alt (by simp only [zAn,zAf,h,kOp])
  | call f x y =>
   simp only [afterP]
   cases hf:kFn C f with
   | some g=>exact kw_call (by simp only [zAn,zAf,h,kOp,hf])
   | none =>
    rw [kfP_none]
    cases hc:zAw C P F.base false f x y H none with
    | none=>exact zBm (by simp only [zAn,zAf,h,kOp,hf,kXL,hc,kCv])
    | some D =>
     obtain ⟨o,H',q⟩:=D
     cases o with
     | ret v=>exact kw_alt (by simp only [zAn,zAf,h,kOp,hf,kXL,hc,kCv,kRet])
     | pan v =>
      rw [kw_alt (b:=.stuck) (by simp only [zAn,zAf,h,kOp,hf,kXL,hc,kCv,kRet])]
      exact zBm rfl
  | _=>exact zBm (by simp only [zAn,zAf,h,kOp])
theorem kw_range {f:Operand} {ps:Array Tmp} {x y:Code} {fn:FuncId} {dfd:Bool} {b:Nat}:KW C P (.exec ⟨fn,none,dfd,b⟩ (.code (.rangeFunc f ps x y)::k) ⟨e,df,H,pn⟩) Q=fnP (opd C e f) fun g first cap=>kfP (kFn C g)
  (fun g=>KW C P (.call g (first++[.func (.yield (H.length+1)) [] []]++cap) (H++[.dfr,.loop ⟨.ready,none,fn,e,ps,x,y,H.length⟩])) fun D =>
   KW C P (.endL ⟨fn,none,dfd,b⟩ k (H.length+1) ⟨e,.collected H.length::df,H,pn⟩ D) Q) False:=by
 cases h:opd C e f with
 | func g first cap =>
  rw [fnP_func]
  cases hf:kFn C g with
  | none=>exact zBm (by simp only [zAn,h,kRange,hf])
  | some g0=>exact kw_call (by simp only [zAn,h,kRange,hf])
 | _=>exact zBm (by simp only [zAn,h,kRange])
theorem kw_endL {L:Nat} {v:AV} {q:Option (AV×Bool)}:KW C P (.endL F k L s ⟨.ret v,H,q⟩) Q=loopP H[L]? fun r=>(r.state≠.busy∧KW C P (.exec F ((r.pending.map Item.code).toList++k) ⟨s.env,s.dfr,H.set L (.loop { r with state:=.exhausted }),s.pan⟩) Q):=by
 cases h:H[L]? with
 | none=>exact zBm (by simp only [zAn,h])
 | some o =>
  cases o with
  | loop r =>
   rw [loopP_loop]
   by_cases hb:r.state=.busy
   ·rw [zBm (by simp only [zAn,h,hb,if_true])]
    simp [hb]
   ·rw [kw_alt (b:=.exec F ((r.pending.map Item.code).toList++k) ⟨s.env,s.dfr,H.set L (.loop { r with state:=.exhausted }),s.pan⟩) (by simp only [zAn,h,hb,if_false])]
    simp [hb]
  | _=>exact zBm (by simp only [zAn,h])
theorem kw_enter {g:FuncId} {args:List AV} {fn:Func} {c:Code} (h1:C.fns g=some fn) (h2:fn.body=some c) (h3:args.length≤fn.ntmps) (h4:C.grow g 999997=false:=by rfl) :
  KW C P (.call g args H) Q=KW C P (.exec ⟨g,none,false,H.length⟩ [.code c] ⟨Env.ofArgs 0 args,[],H,none⟩) fun D=>Q (finN (C.grow g 999999) (C.grow g 999998) H.length D):=by
 rw [kw_call (b:=.exec ⟨g,none,false,H.length⟩ [.code c] ⟨Env.ofArgs 0 args,[],H,none⟩) (f:=fun D=>.fin (finN (C.grow g 999999) (C.grow g 999998) H.length D)) (by simp [zAn,h1,h2,h3,h4])]
 simp only [kw_fin]
theorem root_some {g:FuncId} {args:List AV} {D:Done} (h:KW C P (.call g args H) (·=D)):rootL C P g args H=some D:=rootL_some h
theorem kw_nx {id:Nat} {it:Operand} {li m n:Nat} {seen:List Nat} {kt:TypeId} {es:List (AV×AV)}
  (hg:gcAt C F id s=some ⟨e,df,H,pn⟩) (h1:opd C e it=.ptr li 0) (h2:H[li]? = some (.iter m n seen)) (h3:H[m]? = some (.map kt es)) (h4:es.length=n)
  (hend:(∀ i,i<n→i∈seen)→KW C P (.ops F (⟨d,.next it false,t,p,a,none⟩::r) r k ⟨e.put d (.tup [.bool false]),df,H.set li (.iter m n seen),pn⟩) Q)
  (hgo:∀ i,i<n→i ∉ seen→KW C P (.ops F (⟨d,.next it false,t,p,a,none⟩::r) r k ⟨e.put d (.tup [.bool true,(es.getD i (.undef,.undef)).1,(es.getD i (.undef,.undef)).2]),df,H.set li (.iter m n (seen++[i])),pn⟩) Q) :
  kNext C P F id (⟨d,.next it false,t,p,a,none⟩::r) k s Q:=by
 unfold kNext
 have hn:nextOf C (⟨d,.next it false,t,p,a,none⟩::r) ⟨e,df,H,pn⟩=some ((nextVals es seen).map fun q=>⟨e.put d q.1,df,H.set li (.iter m n q.2),pn⟩):=by
  simp only [nextOf,h1,h2,h3,h4,if_true]
 have hne:nextVals es seen≠[]:=by
  simp only [nextVals]
  split
  ·simp
  ·rename_i hne;simpa using hne
 rw [kw_alts (l:=((nextVals es seen).map fun q=>(⟨e.put d q.1,df,H.set li (.iter m n q.2),pn⟩:St)).map fun s1=>.ops F (⟨d,.next it false,t,p,a,none⟩::r) r k s1) (by simp [zAn,hg,isNext,hn])]
 refine ⟨by simpa using hne,fun b hb=>?_⟩
 obtain ⟨s1,hs,rfl⟩:=List.mem_map.1 hb
 obtain ⟨q,hq,rfl⟩:=List.mem_map.1 hs
 simp only [nextVals] at hq
 split at hq
 ·rename_i he
  rw [List.mem_singleton] at hq
  subst hq
  refine hend fun i hi=>?_
  refine Classical.byContradiction fun hc=>?_
  have:i∈(List.range es.length).filter (fun i=>!seen.contains i):=List.mem_filter.2 ⟨List.mem_range.2 (by omega),by simpa using hc⟩
  rw [he] at this
  simp at this
 ·obtain ⟨i,hi,rfl⟩:=List.mem_map.1 hq
  obtain ⟨g1,g2⟩:=List.mem_filter.1 hi
  exact hgo i (by have:=List.mem_range.1 g1;omega) (by simpa using g2)
theorem kw_nxD {id:Nat} {it:Operand} {li m n dd:Nat} {seen:List Nat} {kt:TypeId} {es:List (AV×AV)}
  (hg:gcAt C F id s=some ⟨e,df,H,pn⟩) (h1:opd C e it=.ptr li 0) (h2:H[li]? = some (.iter m n seen)) (h3:H[m]? = some (.dmap kt es dd)) (h4:es.length=n)
  (hend:(∀ i,i<n→i≠dd→i∈seen)→KW C P (.ops F (⟨d,.next it false,t,p,a,none⟩::r) r k ⟨e.put d (.tup [.bool false]),df,H.set li (.iter m n seen),pn⟩) Q)
  (hgo:∀ i,i<n→i ∉ seen→i≠dd→KW C P (.ops F (⟨d,.next it false,t,p,a,none⟩::r) r k ⟨e.put d (.tup [.bool true,(es.getD i (.undef,.undef)).1,(es.getD i (.undef,.undef)).2]),df,H.set li (.iter m n (seen++[i])),pn⟩) Q) :
  kNext C P F id (⟨d,.next it false,t,p,a,none⟩::r) k s Q:=by
 unfold kNext
 have hn:nextOf C (⟨d,.next it false,t,p,a,none⟩::r) ⟨e,df,H,pn⟩=some ((nextValsD es dd seen).map fun q=>⟨e.put d q.1,df,H.set li (.iter m n q.2),pn⟩):=by
  simp only [nextOf,h1,h2,h3,h4,if_true]
 have hne:nextValsD es dd seen≠[]:=by
  simp only [nextValsD]
  split
  ·simp
  ·rename_i hne;simpa using hne
 rw [kw_alts (l:=((nextValsD es dd seen).map fun q=>(⟨e.put d q.1,df,H.set li (.iter m n q.2),pn⟩:St)).map fun s1=>.ops F (⟨d,.next it false,t,p,a,none⟩::r) r k s1) (by simp [zAn,hg,isNext,hn])]
 refine ⟨by simpa using hne,fun b hb=>?_⟩
 obtain ⟨s1,hs,rfl⟩:=List.mem_map.1 hb
 obtain ⟨q,hq,rfl⟩:=List.mem_map.1 hs
 simp only [nextValsD] at hq
 split at hq
 ·rename_i he
  rw [List.mem_singleton] at hq
  subst hq
  refine hend fun i hi hne=>?_
  refine Classical.byContradiction fun hc=>?_
  have:i∈(List.range es.length).filter (fun i=>!seen.contains i&&i != dd):=List.mem_filter.2 ⟨List.mem_range.2 (by omega),by simp [hc,hne]⟩
  rw [he] at this
  simp at this
 ·obtain ⟨i,hi,rfl⟩:=List.mem_map.1 hq
  obtain ⟨g1,g2⟩:=List.mem_filter.1 hi
  simp only [Bool.and_eq_true,bne_iff_ne,ne_eq] at g2
  exact hgo i (by have:=List.mem_range.1 g1;omega) (by simpa using g2.1) g2.2
theorem ev_insert {T:TypeId} {m x y:Operand} {g:Option (Nat×Bool)}:evOp C P F H e ⟨d,.insert T m x y,t,p,a,g⟩=match C.ty T with
  | some ⟨.map kt _,_,_,_⟩=>if eqFit C kt (opd C e x)&&(opd C e y).stored then (match opd C e m with
   | .map l=>match H[l]? with
    | some (.map kt' es)=>if kt'=kt then mapH (zB0 H F.base l (opd C e y) (.map kt (putM (opd C e x) (opd C e y) es))) else none
    | _=>none
   | _=>none) else none
  | _=>none:=by
 simp only [evOp,omapV,omapH];rfl
end
attribute [go_sem] zAv.eq_17 endP_some condP_t condP_f jumpP_some gcP_some rrP_ok opP_some callP_ret kfP_some kfP_none nxP_t nxP_f fnP_func loopP_loop ownF_t ownF_f kFn_func kFn_yield kFn_method kw_skip kw_inBlock kw_inScope kw_label kw_seq kw_block kw_loop kw_scope kw_nil kw_ret kw_cond kw_exit kw_region kw_draw kw_opsNil afterP.eq_1 afterP.eq_2 kRet_ret kw_op kw_range kw_endL ev_insert
attribute [go_sem_proc] Nat.reduceEqDiff Nat.reduceAdd Nat.reduceLeDiff Nat.reduceBEq Nat.reduceMul Nat.reduceLT Int.reduceLT Int.reduceLE Int.reduceToNat Int.reduceNeg Int.reduceEq Int.reduceMul reduceCtorEq Int.reduceBEq Int.reduceBNe Int.reduceAdd Int.reduceSub
attribute [go_sem_proc ↓] reduceIte
end Go.Ab
