/- Steps: one equation an operation, for a symbolic run of the evaluator. -/
import Derived.Test.YtjhnlfgleicnjaaGreatE2
namespace Go.Ab
set_option linter.unusedSimpArgs false
set_option linter.unusedVariables false
mutual
theorem AV.same_refl:∀ v:AV,v.same v=true
 | .int _ _=>by simp [AV.same]
 | .bool _=>by simp [AV.same]
 | .nilp=>by simp [AV.same]
 | .ptr _ _=>by simp [AV.same]
 | .eptr _ _ _ _=>by simp [AV.same]
 | .vptr e _=>by simp [AV.same,AV.same_refl e]
 | .sl _ es=>by simp [AV.same,sameL_refl es]
 | .gsl _ _=>by simp [AV.same]
 | .wsl _ _ _ _=>by simp [AV.same]
 | .map _=>by simp [AV.same]
 | .nilmap=>by simp [AV.same]
 | .func _ a b=>by simp [AV.same,sameL_refl a,sameL_refl b]
 | .nilFunc=>by simp [AV.same]
 | .iface _ v=>by simp [AV.same,AV.same_refl v]
 | .nilIface=>by simp [AV.same]
 | .agg cs=>by simp [AV.same,sameL_refl cs]
 | .tup cs=>by simp [AV.same,sameL_refl cs]
 | .undef=>by simp [AV.same]
theorem sameL_refl:∀ l:List AV,zBd l l=true
 | []=>by simp [zBd]
 | v::r=>by simp [zBd,AV.same_refl v,sameL_refl r]
end
section
variable {C:Cfg} {P:Program} {F:FI} {k:List Item} {H:Heap} {e:Env} {df:List ADefer} {pn:Option (AV×Bool)} {d:Option Tmp} {t:TypeId} {p:String} {a:Array Edge} {all r:List Oper}
def stepV (r:Option OpR) (k:OpR→Option RR):Option RR :=
 match r with
 | some x=>k x
 | none=>none
@[congr] theorem stepV_congr {r r':Option OpR} {k:OpR→Option RR} (h:r=r'):stepV r k=stepV r' k:=by rw [h]
theorem stepV_some {x:OpR} {k:OpR→Option RR}:stepV (some x) k=k x:=rfl
def callK (r:Option Done) (k p:AV→Heap→Option RR):Option RR :=
 match r with
 | some ⟨.ret v,H',_⟩=>k v H'
 | some ⟨.pan v,H',_⟩=>p v H'
 | none=>none
@[congr] theorem callK_congr {r r':Option Done} {k p:AV→Heap→Option RR} (h:r=r'):callK r k p=callK r' k p:=by rw [h]
theorem callK_ret {v:AV} {H':Heap} {q:Option (AV×Bool)} {k p:AV→Heap→Option RR}:callK (some ⟨.ret v,H',q⟩) k p=k v H':=rfl
theorem callK_pan {v:AV} {H':Heap} {q:Option (AV×Bool)} {k p:AV→Heap→Option RR}:callK (some ⟨.pan v,H',q⟩) k p=p v H':=rfl
def guardK (v:AV) (w:Bool) (s:St) (run skip:St→Option RR):Option RR :=
 match v with
 | .bool b=>if b=w then run s else skip s
 | .tup _=>skip s
 | _=>none
@[congr] theorem guardK_congr {v v':AV} {w:Bool} {s:St} {a b:St→Option RR} (h:v=v'):guardK v w s a b=guardK v' w s a b:=by rw [h]
theorem guardK_tt {s:St} {a b:St→Option RR}:guardK (.bool true) true s a b=a s:=rfl
theorem guardK_ff {s:St} {a b:St→Option RR}:guardK (.bool false) false s a b=a s:=rfl
theorem guardK_tf {s:St} {a b:St→Option RR}:guardK (.bool true) false s a b=b s:=rfl
theorem guardK_ft {s:St} {a b:St→Option RR}:guardK (.bool false) true s a b=b s:=rfl
theorem guardK_tup {s:St} {l:List AV} {w:Bool} {a b:St→Option RR}:guardK (.tup l) w s a b=b s:=rfl
def regK (r:Option RR) (k:St→Option Done) (p:AV→St→Option Done):Option Done :=
 match r with
 | some (.ok s)=>k s
 | some (.pan v s)=>p v s
 | none=>none
@[congr] theorem regK_congr {r r':Option RR} {k:St→Option Done} {p:AV→St→Option Done} (h:r=r'):regK r k p=regK r' k p:=by rw [h]
theorem regK_ok {s:St} {k:St→Option Done} {p:AV→St→Option Done}:regK (some (.ok s)) k p=k s:=rfl
theorem regK_pan {v:AV} {s:St} {k:St→Option Done} {p:AV→St→Option Done}:regK (some (.pan v s)) k p=p v s:=rfl
def gcK (r:Option St) (k:St→Option Done):Option Done :=
 match r with
 | some s=>k s
 | none=>none
@[congr] theorem gcK_congr {r r':Option St} {k:St→Option Done} (h:r=r'):gcK r k=gcK r' k:=by rw [h]
theorem gcK_some {s:St} {k:St→Option Done}:gcK (some s) k=k s:=rfl
def condK (v:AV) (s:St) (a b:St→Option Done):Option Done :=
 match v with
 | .bool true=>a s
 | .bool false=>b s
 | _=>none
@[congr] theorem condK_congr {v v':AV} {s:St} {a b:St→Option Done} (h:v=v'):condK v s a b=condK v' s a b:=by rw [h]
theorem condK_t {s:St} {a b:St→Option Done}:condK (.bool true) s a b=a s:=rfl
theorem condK_f {s:St} {a b:St→Option Done}:condK (.bool false) s a b=b s:=rfl
def jumpK (r:Option (List Item)) (k:List Item→Option Done) (p:Option Done):Option Done :=
 match r with
 | some x=>k x
 | none=>p
@[congr] theorem jumpK_congr {r r':Option (List Item)} {k:List Item→Option Done} {p:Option Done} (h:r=r'):jumpK r k p=jumpK r' k p:=by rw [h]
theorem jumpK_some {x:List Item} {k:List Item→Option Done} {p:Option Done}:jumpK (some x) k p=k x:=rfl
def doneK (r:Option Done) (k:Done→Option Done):Option Done :=
 match r with
 | some d=>k d
 | none=>none
@[congr] theorem doneK_congr {r r':Option Done} {k:Done→Option Done} (h:r=r'):doneK r k=doneK r' k:=by rw [h]
theorem doneK_some {d:Done} {k:Done→Option Done}:doneK (some d) k=k d:=rfl
def funcK (v:AV) (k:Fn→List AV→List AV→Option Done):Option Done :=
 match v with
 | .func fn first cap=>k fn first cap
 | _=>none
@[congr] theorem funcK_congr {v v':AV} {k:Fn→List AV→List AV→Option Done} (h:v=v'):funcK v k=funcK v' k:=by rw [h]
theorem funcK_func {fn:Fn} {a b:List AV} {k:Fn→List AV→List AV→Option Done}:funcK (.func fn a b) k=k fn a b:=rfl
def loopK (o:Option AO) (k:ALoop→Option Done):Option Done :=
 match o with
 | some (.loop r)=>k r
 | _=>none
@[congr] theorem loopK_congr {o o':Option AO} {k:ALoop→Option Done} (h:o=o'):loopK o k=loopK o' k:=by rw [h]
theorem loopK_loop {r:ALoop} {k:ALoop→Option Done}:loopK (some (.loop r)) k=k r:=rfl
noncomputable def afterOp (C:Cfg) (P:Program) (F:FI) (all r:List Oper) (d:Option Tmp) (e:Env) (df:List ADefer) (H:Heap) (pn:Option (AV×Bool)):OpR→Option RR
 | .val v H'=>opsL C P F all r ⟨e.put d v,df,H',pn⟩
 | .call f a c=>callK (zAw C P F.base false f a c H none) (fun v H'=>opsL C P F all r ⟨e.put d v,df,H',pn⟩) (fun v H'=>some (.pan v ⟨e,df,H',pn⟩))
 | .pan v=>some (.pan v ⟨e,df,H,pn⟩)
 | .dfr d'=>opsL C P F all r ⟨e.put d (.tup []),d'::df,H,pn⟩
 | .recov=>match F.round,F.dfd,pn with
  | none,true,some (v,false)=>opsL C P F all r ⟨e.put d v,df,H,some (v,true)⟩
  | none,_,_=>opsL C P F all r ⟨e.put d .nilIface,df,H,pn⟩
  | _,_,_=>none
theorem opsL_op {op:Op}:opsL C P F all (⟨d,op,t,p,a,none⟩::r) ⟨e,df,H,pn⟩=stepV (evOp C P F H e ⟨d,op,t,p,a,none⟩) (afterOp C P F all r d e df H pn):=by
 rw [opsL_cons]
 simp only [zAf]
 cases evOp C P F H e ⟨d,op,t,p,a,none⟩ with
 | none=>rfl
 | some x =>
  cases x with
  | call f a c =>
   simp only [stepV_some,afterOp]
   cases zAw C P F.base false f a c H none with
   | none=>rfl
   | some y =>
    obtain ⟨o,_,_⟩:=y
    cases o<;>rfl
  | _=>rfl
def dstAt:List Oper→Nat→Option Tmp
 | [],_=>none
 | o::_,0=>o.dst
 | _::r,n+1=>dstAt r n
def Env.getO (e:Env) (k:Option Tmp):AV :=
 match k with
 | some k=>e.get k
 | none=>.undef
theorem dstAt_eq:∀ (l:List Oper) (j:Nat),dstAt l j=(l[j]?).bind (·.dst)
 | [],_=>by simp [dstAt]
 | o::_,0=>by simp [dstAt]
 | _::r,n+1=>by simp [dstAt,dstAt_eq r n]
theorem opsL_guard {op:Op} {j:Nat} {w:Bool}:opsL C P F all (⟨d,op,t,p,a,some (j,w)⟩::r) ⟨e,df,H,pn⟩ =
  guardK (e.getO (dstAt all j)) w ⟨e,df,H,pn⟩ (fun s=>opsL C P F all (⟨d,op,t,p,a,none⟩::r) s) (fun s=>opsL C P F all r ⟨s.env.put d (.tup []),s.dfr,s.H,s.pan⟩):=by
 have hev:evOp C P F H e ⟨d,op,t,p,a,some (j,w)⟩=evOp C P F H e ⟨d,op,t,p,a,none⟩:=rfl
 rw [opsL_cons,dstAt_eq]
 simp only [zAf]
 cases (all[j]?).bind (·.dst) with
 | none=>rfl
 | some k =>
  simp only [Env.getO]
  cases e.get k with
  | bool b =>
   cases hb:b==w with
   | false =>
    have hn:¬ b=w:=by simpa using hb
    simp only [guardK,if_neg hn,hb]
   | true =>
    have hn:b=w:=by simpa using hb
    simp only [guardK,if_pos hn,hb]
    rw [opsL_cons]
    simp only [zAf,hev]
  | _=>rfl
noncomputable def nextR (C:Cfg) (P:Program) (F:FI) (id:Nat) (l:List Oper) (k:List Item) (s:St):Option Done:=zAh C P F (.code (.region id l.toArray false)::k) s
def nxK (b:Bool) (x y:Option Done):Option Done:=if b then x else y
@[congr] theorem nxK_congr {b b':Bool} {x y:Option Done} (h:b=b'):nxK b x y=nxK b' x y:=by rw [h]
theorem nxK_f {x y:Option Done}:nxK false x y=y:=rfl
theorem nxK_t {x y:Option Done}:nxK true x y=x:=rfl
theorem exec_region {s:St} {id:Nat} {l:List Oper}:zAh C P F (.code (.region id l.toArray false)::k) s=nxK (isNext l) (nextR C P F id l k s) (gcK (gcAt C F id s) fun s=>regK (opsL C P F l l s) (fun s'=>zAh C P F k s') (fun v s'=>unwL C P F (some (v,false)) s')):=by
 cases hi:isNext l with
 | true=>rfl
 | false =>
  rw [nxK_f,execL_region (by simpa using hi)]
  cases gcAt C F id s with
  | none=>rfl
  | some s =>
   simp only [gcK_some,List.toList_toArray]
   cases opsL C P F l l s with
   | none=>rfl
   | some r=>cases r<;>rfl
theorem exec_cond {s:St} {c:Operand} {x y:Code}:zAh C P F (.code (.cond c x y)::k) s=condK (opd C s.env c) s (fun s=>zAh C P F (.code x::k) s) (fun s=>zAh C P F (.code y::k) s):=by
 rw [execL_cond]
 rfl
theorem exec_exit {s:St} {id:Nat}:zAh C P F (.code (.exit id)::k) s=jumpK (exitTo id k) (fun k'=>zAh C P F k' s) (leaveL C P F (some (.exit id)) s):=by
 rw [execL_exit]
 cases exitTo id k<;>rfl
theorem unw_fn {m:Option (AV×Bool)} {f:Fn} {x c:List AV} {ds:List ADefer}:unwL C P F m ⟨e,.fn f x c::ds,H,pn⟩=doneK (zAw C P F.base true f x c H m) fun d=>match d.out with
   | .ret _=>(match m,d.pan with
    | some _,some (_,true)=>unwL C P F none ⟨e,ds,d.H,pn⟩
    | _,_=>unwL C P F m ⟨e,ds,d.H,pn⟩)
   | .pan _=>none:=by
 rw [unwL_fn]
 cases zAw C P F.base true f x c H m with
 | none=>rfl
 | some y =>
  obtain ⟨o,_,_⟩:=y
  cases o<;>rfl
theorem exec_range {f:Operand} {ps:Array Tmp} {x y:Code} (hr:F.round=none):zAh C P F (.code (.rangeFunc f ps x y)::k) ⟨e,df,H,pn⟩=funcK (opd C e f) fun fn first cap =>
  doneK (zAw C P F.base false fn (first++[.func (.yield (H.length+1)) [] []]) cap (H++[.dfr,.loop ⟨.ready,none,F.fn,e,ps,x,y,H.length⟩]) none) fun d =>
   endLoopL C P F k (H.length+1) ⟨e,.collected H.length::df,H,pn⟩ d:=by
 rw [execL_range]
 simp only [hr]
 cases opd C e f<;>rfl
theorem exec_beginRound {l:Nat} (hr:F.round=some l):zAh C P F (.beginRound::k) ⟨e,df,H,pn⟩=loopK H[l]? fun r=>if r.state=.ready then zAh C P F k ⟨e,df,H.set l (.loop { r with state:=.busy }),pn⟩ else none:=by
 rw [execL_beginRound]
 simp only [hr]
 cases H[l]? with
 | none=>rfl
 | some o=>cases o<;>rfl
theorem callV_yield {b l:Nat} {args cap:List AV} {pan:Option (AV×Bool)}:zAw C P b false (.yield l) args cap H pan=loopK H[l]? fun r=>if args.length=r.params.size then
     (zAh C P ⟨r.fn,some l,false,H.length⟩ [.code r.assign,.beginRound,.code r.body] ⟨Env.params r.env r.params.toList args,[],H,none⟩).map (zAi H.length)
    else none:=by
 rw [callVL_yield]
 cases H[l]? with
 | none=>rfl
 | some o=>cases o<;>rfl
variable {g:Option (Nat×Bool)}
def mapV (o:Option AV) (H:Heap):Option OpR :=
 match o with
 | some v=>some (.val v H)
 | none=>none
def mapH (o:Option Heap):Option OpR :=
 match o with
 | some H=>some (.val .undef H)
 | none=>none
theorem omapV (o:Option AV) (H:Heap):o.map (fun v=>OpR.val v H)=mapV o H:=by cases o<;>rfl
theorem omapH (o:Option Heap):o.map (fun H=>OpR.val .undef H)=mapH o:=by cases o<;>rfl
def opdP (C:Cfg) (e:Env) (p:Nat×Operand):Nat×AV:=(p.1,opd C e p.2)
theorem opdP_mk {i:Nat} {x:Operand}:opdP C e (i,x)=(i,opd C e x):=rfl
def partOk (len sz:Nat) (a:Bool) (p:Nat×AV):Bool:=decide (p.1<len)&&(elemOk sz a p.2&&p.2.lt 0)
theorem partOk_mk {len sz i:Nat} {b:Bool} {v:AV}:partOk len sz b (i,v)=(decide (i<len)&&(elemOk sz b v&&v.lt 0)):=rfl
theorem ev_move {x:Operand}:evOp C P F H e ⟨d,.move x,t,p,a,g⟩=some (.val (opd C e x) H):=rfl
theorem ev_assign {x:Operand}:evOp C P F H e ⟨d,.assign x,t,p,a,g⟩=if C.grow F.fn (d.getD 0)&&zAs (opd C e x) then
   match opd C e x,C.ty t with
   | .sl true [],some ⟨.slice el,_,_,_⟩=>match C.ty el with
    | some te=>some (.val (.gsl H.length 0) (H++[.grow te.size []]))
    | none=>none
   | _,_=>none
  else some (.val (opd C e x) H):=rfl
theorem ev_pick {c x y:Operand}:evOp C P F H e ⟨d,.pick c x y,t,p,a,g⟩=match opd C e c with
  | .bool b=>some (.val (if b then opd C e x else opd C e y) H)
  | _=>none:=rfl
theorem ev_alloc {T:TypeId}:evOp C P F H e ⟨d,.alloc T,t,p,a,g⟩=match C.ty T with
  | some ty=>if C.grow F.fn (d.getD 0)&&zAs ty.zv then
    (match ty with
    | ⟨.slice el,s,_,_⟩=>match C.ty el with
     | some te=>if ty.zeroOk&&elemOk s false (.gsl H.length 0) then some (.val (.ptr (H.length+1) 0) (H++[.grow te.size [],.box (.gsl H.length 0)])) else none
     | none=>none
    | _=>none)
   else if ty.zeroOk then some (.val (.ptr H.length 0) (H++[.box ty.zv])) else none
  | none=>none:=rfl
theorem ev_box {T:TypeId} {x:Operand}:evOp C P F H e ⟨d,.box T x,t,p,a,g⟩=match C.ty T with
  | some ty=>if C.grow F.fn (d.getD 0)&&zAs (opd C e x) then
    (match ty with
    | ⟨.slice el,s,_,_⟩=>match C.ty el with
     | some te=>if elemOk s false (.gsl H.length 0) then some (.val (.ptr (H.length+1) 0) (H++[.grow te.size [],.box (.gsl H.length 0)])) else none
     | none=>none
    | _=>none)
   else if elemOk ty.size ty.agg (opd C e x) then some (.val (.ptr H.length 0) (H++[.box (opd C e x)])) else none
  | none=>none:=rfl
theorem ev_build {T:TypeId} {ps:Array (Nat×Operand)}:evOp C P F H e ⟨d,.build T ps,t,p,a,g⟩=match C.ty T with
  | some ty=>if ty.zeroOk then (match ty.d with
   | .struct fs=>(fillA (zAz C fs) ty.zv.cells (ps.toList.map (opdP C e))).map fun cs=>.val (.agg cs) H
   | .array _ el=>match C.ty el with
    | some te=>(fillA (fun i=>some (i*te.size,te.size)) ty.zv.cells (ps.toList.map (opdP C e))).map fun cs=>.val (.agg cs) H
    | none=>none
   | _=>none) else none
  | none=>none:=rfl
theorem ev_buildSlice {T:TypeId} {len:Nat} {ps:Array (Nat×Operand)}:evOp C P F H e ⟨d,.buildSlice T len ps,t,p,a,g⟩=match C.ty T with
  | some ⟨.slice el,_,_,_⟩=>match C.ty el with
   | some te =>
    if te.zeroOk&&(len≤1024&&(te.size≤1024&&((ps.toList.map (opdP C e)).all (partOk len te.size te.agg)))) then
     some (.val (.sl true (setParts (List.replicate len te.zv) (ps.toList.map (opdP C e)))) H)
    else none
   | none=>none
  | _=>none:=rfl
theorem ev_load {T:TypeId} {x:Operand}:evOp C P F H e ⟨d,.load T x,t,p,a,g⟩=match C.ty T with
  | some ty=>mapV (evLoad H ty (opd C e x)) H
  | none=>none:=by
 simp only [evOp,omapV,omapH];rfl
theorem ev_store {T:TypeId} {x y:Operand}:evOp C P F H e ⟨d,.store T x y,t,p,a,g⟩=match C.ty T with
  | some ty=>if growA C F x&&zAs (opd C e y) then
    (match ty with
    | ⟨.slice el,_,_,_⟩=>match C.ty el with
     | some te=>mapH (evStore F.base (H++[.grow te.size []]) ty (opd C e x) (.gsl H.length 0))
     | none=>none
    | _=>none)
   else mapH (evStore F.base H ty (opd C e x) (opd C e y))
  | none=>none:=by
 simp only [evOp,omapV,omapH];rfl
theorem growA_tmp {k:Nat}:growA C F (.tmp k)=C.grow F.fn k:=rfl
theorem ev_nilCheck {x:Operand}:evOp C P F H e ⟨d,.nilCheck x,t,p,a,g⟩=match opd C e x with
  | .ptr l off=>some (.val (.ptr l off) H)
  | .eptr l n i off=>some (.val (.eptr l n i off) H)
  | .vptr v off=>some (.val (.vptr v off) H)
  | .iface t v=>some (.val (.iface t v) H)
  | .func (.func f) a b=>some (.val (.func (.func f) a b) H)
  | .func (.method n) (.iface t v::a) b=>if (C.meth t n).isSome then some (.val (.func (.method n) (.iface t v::a) b) H) else none
  | _=>none:=rfl
theorem ev_bin {op:BinOp} {T T':TypeId} {x y:Operand}:evOp C P F H e ⟨d,.binOp op T x y T',t,p,a,g⟩=match evBin op (eqOk C T (opd C e x) (opd C e y)) (opd C e x) (opd C e y) with
  | some v=>some (.val v H)
  | none=>mapV (evNil P op T (isConst x||isConst y) (opd C e x) (opd C e y)) H:=by
 simp only [evOp,omapV];rfl
theorem ev_un {op:UnOp} {T:TypeId} {x:Operand}:evOp C P F H e ⟨d,.unOp op T x,t,p,a,g⟩=mapV (evUn op (opd C e x)) H:=by
 simp only [evOp,omapV,omapH]
theorem ev_convert {src dst:TypeId} {x:Operand}:evOp C P F H e ⟨d,.convert src dst x,t,p,a,g⟩=match C.ty src,C.ty dst,opd C e x with
  | some _,some ⟨.int k,_,_,_⟩,.int _ n=>some (.val (.int k (k.wrap n)) H)
  | _,_,_=>none:=rfl
theorem ev_makeInterface {T:TypeId} {x:Operand}:evOp C P F H e ⟨d,.makeInterface T x,t,p,a,g⟩=match C.ty T with
  | some ty=>match ty.d with
   | .iface=>none
   | _=>if (opd C e x).stored then some (.val (.iface T (opd C e x)) H) else none
  | none=>none:=rfl
theorem ev_makeFunc {fn:Fn} {first cap:Array Operand}:evOp C P F H e ⟨d,.makeFunc fn first cap,t,p,a,g⟩=if noYield fn then some (.val (.func fn (first.toList.map (opd C e)) (cap.toList.map (opd C e))) H) else none:=rfl
theorem ev_makeMap {T:TypeId}:evOp C P F H e ⟨d,.makeMap T none,t,p,a,g⟩=match C.ty T with
  | some ⟨.map kt _,_,_,_⟩=>some (.val (.map H.length) (H++[.map kt []]))
  | _=>none:=rfl
theorem ev_makeSlice {T:TypeId} {l c:Operand}:evOp C P F H e ⟨d,.makeSlice T l c,t,p,a,g⟩=match C.ty T,opd C e l,opd C e c with
  | some ⟨.slice el,_,_,_⟩,.int _ n,.int _ m=>match C.ty el with
   | some te=>if te.zeroOk&&(te.bytes≤maxLenA&&(decide (0≤n∧n≤m∧m≤maxLenA)&&te.zv.lt 0)) then
     some (.val (.gsl H.length n.toNat) (H++[.grow te.size (List.replicate n.toNat te.zv)])) else none
   | none=>none
  | _,_,_=>none:=rfl
theorem ev_slice {T:TypeId} {x:Operand} {lo hi:Option Operand}:evOp C P F H e ⟨d,.slice T x lo hi none,t,p,a,g⟩=match C.ty T,opd C e x with
  | some ⟨.slice el,_,_,_⟩,.sl _ es=>match C.ty el with
   | some te=>if es.all fun v=>v.cells.length==te.size then
    (match (match lo with | some a=>opd C e a | none=>.int .i64 0),(match hi with | some a=>opd C e a | none=>.int .i64 es.length) with
    | .int _ l,.int _ h=>if 0≤l∧l≤h∧h≤es.length then some (.val (.sl false ((es.take h.toNat).drop l.toNat)) H) else none
    | _,_=>none) else none
   | none=>none
  | some ⟨.slice el,_,_,_⟩,.gsl l n=>match C.ty el with
   | some te=>(match lo,hi with
    | some a,none=>(match opd C e a with
     | .int _ k=>if 0≤k∧k.toNat<n then some (.val (.wsl l n k.toNat (k.toNat*te.size)) H) else none
     | _=>none)
    | _,_=>none)
   | none=>none
  | some ⟨.array len el,_,_,_⟩,.vptr (.agg cs) 0=>match C.ty el with
   | some te=>if (lo.isNone&&hi.isNone)&&(te.size==1&&cs.length==len) then some (.val (.sl false cs) H) else none
   | none=>none
  | _,_=>none:=rfl
theorem ev_fieldAddr {T:TypeId} {x:Operand} {i:Nat}:evOp C P F H e ⟨d,.fieldAddr T x i,t,p,a,g⟩=match C.ty T with
  | some ⟨.struct fs,_,_,_⟩=>match fs[i]? with
   | some (off,ft)=>match C.ty ft with
    | some fy=>if fy.size=0 then evZero P H T i (opd C e x) else mapV (addOff (opd C e x) off) H
    | none=>none
   | none=>none
  | _=>none:=by
 simp only [evOp,omapV,omapH];rfl
def idxAddr (H:Heap) (te:Ty) (v:AV) (k:Int):Option AV :=
 match v with
 | .sl _ es=>if 0≤k then (match es[k.toNat]? with
  | some v=>if v.cells.length=te.size then some (.vptr v 0) else none
  | none=>none) else none
 | .gsl l n=>match H[l]? with
  | some (.grow sz xs)=>if xs.length=n∧0≤k∧k.toNat<n∧sz=te.size then some (.eptr l n k.toNat 0) else none
  | _=>none
 | _=>none
theorem ev_indexAddr {T:TypeId} {x i:Operand}:evOp C P F H e ⟨d,.indexAddr T x i,t,p,a,g⟩=match C.ty T,opd C e i with
  | some ⟨.slice el,_,_,_⟩,.int _ k=>match C.ty el with
   | some te=>mapV (idxAddr H te (opd C e x) k) H
   | none=>none
  | some ⟨.array len el,_,_,_⟩,.int _ k=>match C.ty el with
   | some te=>if 0≤k∧k<len then mapV (addOff (opd C e x) (k.toNat*te.size)) H else none
   | none=>none
  | _,_=>none:=by
 have key:∀ (te:Ty) (v:AV) (k:Int),(match v with
    | .sl _ es=>if 0≤k then (match es[k.toNat]? with
     | some v=>if v.cells.length=te.size then some (OpR.val (.vptr v 0) H) else none
     | none=>none) else none
    | .gsl l n=>match H[l]? with
     | some (.grow sz xs)=>if xs.length=n∧0≤k∧k.toNat<n∧sz=te.size then some (OpR.val (.eptr l n k.toNat 0) H) else none
     | _=>none
    | _=>none)=mapV (idxAddr H te v k) H:=by
  intro te v k
  cases v with
  | sl f es =>
   simp only [idxAddr]
   split
   ·cases es[k.toNat]? with
    | none=>rfl
    | some v=>simp only;split<;>rfl
   ·rfl
  | gsl l n =>
   simp only [idxAddr]
   cases H[l]? with
   | none=>rfl
   | some o =>
    cases o with
    | grow sz xs=>simp only;split<;>rfl
    | _=>rfl
  | _=>rfl
 simp only [evOp,omapV,← key];rfl
theorem ev_index {T:TypeId} {x i:Operand}:evOp C P F H e ⟨d,.index T x i,t,p,a,g⟩=match C.ty T,opd C e x,opd C e i with
  | some ⟨.array len el,_,_,_⟩,.agg cs,.int _ k=>match C.ty el with
   | some te=>if 0≤k∧k<len then mapV (zAy cs (k.toNat*te.size) te) H else none
   | none=>none
  | _,_,_=>none:=by
 simp only [evOp,omapV,omapH];rfl
theorem ev_lookup {T:TypeId} {m x:Operand} {ok:Bool}:evOp C P F H e ⟨d,.lookup T m x ok,t,p,a,g⟩=match C.ty T with
  | some ⟨.map kt et,_,_,_⟩=>if eqFit C kt (opd C e x) then (match opd C e m with
   | .map l=>match H[l]? with
    | some (.map kt' es)=>if kt'=kt then match zAj (opd C e x) es with
     | some v=>some (.val (if ok then .tup [v,.bool true] else v) H)
     | none=>match C.ty et with
      | some te=>if te.zeroOk then some (.val (if ok then .tup [te.zv,.bool false] else te.zv) H) else none
      | none=>none
     else none
    | _=>none
   | _=>none) else none
  | _=>none:=rfl
theorem ev_mapUpdate {T:TypeId} {m x y:Operand}:evOp C P F H e ⟨d,.mapUpdate T m x y,t,p,a,g⟩=match C.ty T with
  | some ⟨.map kt _,_,_,_⟩=>if eqFit C kt (opd C e x)&&(opd C e y).stored then (match opd C e m with
   | .map l=>match H[l]? with
    | some (.map kt' es)=>if kt'=kt then mapH (zB0 H F.base l (opd C e y) (.map kt (putM (opd C e x) (opd C e y) es))) else none
    | _=>none
   | _=>none) else none
  | _=>none:=by
 simp only [evOp,omapV,omapH];rfl
theorem ev_typeAssert {x:Operand} {S T:TypeId} {ok:Bool}:evOp C P F H e ⟨d,.typeAssert x S T ok,t,p,a,g⟩=match C.ty T with
  | some ty=>match ty.d with
   | .iface=>none
   | _=>match opd C e x with
    | .iface u v=>if u=T then some (.val (if ok then .tup [v,.bool true] else v) H)
     else if ok&&ty.zeroOk then some (.val (.tup [ty.zv,.bool false]) H) else none
    | _=>none
  | none=>none:=rfl
theorem ev_extract {x:Operand} {i:Nat}:evOp C P F H e ⟨d,.extract x i,t,p,a,g⟩=match opd C e x with
  | .tup vs=>match vs[i]? with
   | some v=>some (.val v H)
   | none=>none
  | _=>none:=rfl
theorem ev_call {c:Call}:evOp C P F H e ⟨d,.call c,t,p,a,g⟩=zBi C H e c:=rfl
theorem ev_defer {c:Call}:evOp C P F H e ⟨d,.defer c,t,p,a,g⟩=match zBi C H e c with
  | some (.call f a b)=>if F.round.isNone then some (.dfr (.fn f a b)) else none
  | _=>none:=rfl
theorem ev_panic {x:Operand}:evOp C P F H e ⟨d,.panic x,t,p,a,g⟩=match opd C e x with
  | .iface t v=>some (.pan (.iface t v))
  | _=>none:=rfl
def isIfc (P:Program) (T:TypeId):Bool :=
 match P.underlying T with
 | some (.interface _)=>true
 | _=>false
theorem evNilS {op:BinOp} {T:TypeId} {c:Bool} {x y:AV} (h:isIfc P T=true):evNil P op T c x y=match op,x,y with
  | .eql,.nilIface,.nilIface=>if c then some (.bool true) else none
  | .neq,.nilIface,.nilIface=>if c then some (.bool false) else none
  | .eql,.iface _ _,.nilIface=>some (.bool false)
  | .neq,.iface _ _,.nilIface=>some (.bool true)
  | .eql,.nilIface,.iface _ _=>some (.bool false)
  | .neq,.nilIface,.iface _ _=>some (.bool true)
  | _,_,_=>none:=by
 simp only [isIfc] at h
 split at h
 ·rename_i e;simp only [evNil,e];rfl
 ·cases h
def zeroFld (P:Program) (t:TypeId) (i:Nat):Bool :=
 match P.underlying t with
 | some (.struct fs)=>match fs[i]? with
  | some f=>f.offset==0&&f.byteOffset==0
  | none=>false
 | _=>false
theorem evZero_of {T:TypeId} {i l off:Nat} (h:zeroFld P T i=true):evZero P H T i (.ptr l off)=match H[l]? with
  | some (.box (.agg []))=>some (.val (.ptr l off) H)
  | _=>none:=by
 simp only [zeroFld] at h
 split at h
 ·rename_i fs e
  split at h
  ·rename_i f e2
   simp only [Bool.and_eq_true,beq_iff_eq] at h
   simp only [evZero,e,e2]
   cases H[l]? with
   | none=>rfl
   | some o =>
    cases o with
    | box v =>
     cases v with
     | agg cs =>
      cases cs with
      | nil=>simp only [h.1,h.2,and_self,if_true]
      | cons _ _=>rfl
     | _=>rfl
    | _=>rfl
  ·cases h
 ·cases h
theorem cells_int {k:IntKind} {n:Int}:AV.cells (.int k n)=[(.int k n)]:=rfl
theorem scalar_int {k:IntKind} {n:Int}:AV.scalar (.int k n)=true:=rfl
theorem stored_int {k:IntKind} {n:Int}:AV.stored (.int k n)=true:=rfl
theorem cells_bool {b:Bool}:AV.cells (.bool b)=[(.bool b)]:=rfl
theorem scalar_bool {b:Bool}:AV.scalar (.bool b)=true:=rfl
theorem stored_bool {b:Bool}:AV.stored (.bool b)=true:=rfl
theorem cells_nilp:AV.cells .nilp=[.nilp]:=rfl
theorem scalar_nilp:AV.scalar .nilp=true:=rfl
theorem cells_ptr {l o:Nat}:AV.cells (.ptr l o)=[(.ptr l o)]:=rfl
theorem scalar_ptr {l o:Nat}:AV.scalar (.ptr l o)=true:=rfl
theorem cells_sl {f:Bool} {es:List AV}:AV.cells (.sl f es)=[(.sl f es)]:=rfl
theorem scalar_sl {f:Bool} {es:List AV}:AV.scalar (.sl f es)=true:=rfl
theorem cells_gsl {l n:Nat}:AV.cells (.gsl l n)=[(.gsl l n)]:=rfl
theorem scalar_gsl {l n:Nat}:AV.scalar (.gsl l n)=true:=rfl
theorem cells_map {l:Nat}:AV.cells (.map l)=[(.map l)]:=rfl
theorem scalar_map {l:Nat}:AV.scalar (.map l)=true:=rfl
theorem cells_nilmap:AV.cells .nilmap=[.nilmap]:=rfl
theorem scalar_nilmap:AV.scalar .nilmap=true:=rfl
theorem cells_func {fn:Fn} {x y:List AV}:AV.cells (.func fn x y)=[(.func fn x y)]:=rfl
theorem scalar_func {fn:Fn} {x y:List AV}:AV.scalar (.func fn x y)=true:=rfl
theorem cells_nilFunc:AV.cells .nilFunc=[.nilFunc]:=rfl
theorem scalar_nilFunc:AV.scalar .nilFunc=true:=rfl
theorem cells_iface {u:TypeId} {x:AV}:AV.cells (.iface u x)=[(.iface u x)]:=rfl
theorem scalar_iface {u:TypeId} {x:AV}:AV.scalar (.iface u x)=true:=rfl
theorem cells_nilIface:AV.cells .nilIface=[.nilIface]:=rfl
theorem scalar_nilIface:AV.scalar .nilIface=true:=rfl
theorem cells_agg {cs:List AV}:AV.cells (.agg cs)=cs:=rfl
theorem stored_agg {cs:List AV}:AV.stored (.agg cs)=true:=rfl
theorem withCells_agg {cs ds:List AV}:AV.withCells (.agg cs) ds=.agg ds:=rfl
theorem withCells_int {k:IntKind} {n:Int} {c:AV}:AV.withCells (.int k n) [c]=c:=rfl
theorem withCells_bool {b:Bool} {c:AV}:AV.withCells (.bool b) [c]=c:=rfl
theorem withCells_nilp {c:AV}:AV.withCells .nilp [c]=c:=rfl
theorem withCells_gsl {l n:Nat} {c:AV}:AV.withCells (.gsl l n) [c]=c:=rfl
theorem withCells_nilFunc {c:AV}:AV.withCells .nilFunc [c]=c:=rfl
theorem withCells_nilmap {c:AV}:AV.withCells .nilmap [c]=c:=rfl
theorem evLoad_ptr {ty:Ty} {l off:Nat}:evLoad H ty (.ptr l off)=match H[l]? with
  | some (.box v)=>zAy v.cells off ty
  | _=>none:=rfl
theorem evStore_ptr {ty:Ty} {b l off:Nat} {v:AV}:evStore b H ty (.ptr l off) v=match H[l]? with
  | some (.box w)=>match writePart w off v ty with
   | some w'=>zB0 H b l v (.box w')
   | none=>none
  | _=>none:=rfl
theorem addOff_ptr {l off o:Nat}:addOff (.ptr l off) o=some (.ptr l (off+o)):=rfl
def SlOk (H:Heap) (sz:Nat) (v:AV) (xs:List AV):Prop :=
 (match v with
 | .sl _ es=>es=xs
 | .gsl l n=>H[l]? = some (.grow sz xs)∧n=xs.length
 | _=>False)∧∀ x∈xs,x.cells.length=sz
def elA (v:AV) (k:Int) (off:Nat):AV :=
 match v with
 | .sl _ es=>.vptr (es.getD k.toNat .undef) off
 | .gsl l n=>.eptr l n k.toNat off
 | _=>.undef
theorem SlOk.len {sz:Nat} {v:AV} {xs:List AV} (h:SlOk H sz v xs):evLen v=some (.int .i64 xs.length):=by
 obtain ⟨h1,_⟩:=h
 cases v<;>simp only at h1
 ·subst h1;rfl
 ·simp only [evLen,h1.2]
theorem evLen_sl {f:Bool} {es:List AV}:evLen (.sl f es)=some (.int .i64 es.length):=rfl
theorem evLen_gsl {l n:Nat}:evLen (.gsl l n)=some (.int .i64 n):=rfl
theorem SlOk.app {sz:Nat} {v:AV} {xs:List AV} (h:SlOk H sz v xs) (G:Heap):SlOk (H++G) sz v xs:=by
 obtain ⟨h1,h2⟩:=h
 refine ⟨?_,h2⟩
 cases v<;>simp only at h1 ⊢
 ·exact h1
 ·refine ⟨?_,h1.2⟩
  rw [List.getElem?_append_left (List.getElem?_eq_some_iff.1 h1.1).1]
  exact h1.1
theorem SlOk.idx {sz:Nat} {v:AV} {xs:List AV} {te:Ty} {k:Int} (h:SlOk H sz v xs) (hs:te.size=sz) (h0:0≤k) (hk:k.toNat<xs.length):idxAddr H te v k=some (elA v k 0):=by
 obtain ⟨h1,h2⟩:=h
 cases v<;>simp only at h1
 ·subst h1
  simp only [idxAddr,if_pos h0,List.getElem?_eq_getElem hk,elA,List.getD_eq_getElem?_getD,Option.getD_some]
  rw [if_pos (by rw [hs];exact h2 _ (List.getElem_mem _))]
 ·simp only [idxAddr,h1.1,elA]
  rw [if_pos ⟨h1.2.symm,h0,by rw [h1.2];exact hk,hs.symm⟩]
theorem SlOk.load {sz:Nat} {v:AV} {xs:List AV} {ty:Ty} {k:Int} {off:Nat} {x:AV} (h:SlOk H sz v xs) (hx:xs[k.toNat]? = some x):evLoad H ty (elA v k off)=zAy x.cells off ty:=by
 obtain ⟨h1,h2⟩:=h
 cases v<;>simp only at h1
 ·subst h1
  simp only [elA,evLoad,List.getD_eq_getElem?_getD,hx,Option.getD_some]
 ·simp only [elA,evLoad,h1.1,h1.2,if_true,hx]
theorem addOff_elA {H:Heap} {sz:Nat} {v:AV} {xs:List AV} {k:Int} {off o:Nat} (h:SlOk H sz v xs):addOff (elA v k off) o=some (elA v k (off+o)):=by
 obtain ⟨h1,h2⟩:=h
 cases v<;>simp only at h1<;>rfl
theorem SlOk.lt0 {sz:Nat} {v:AV} {xs:List AV} (h:SlOk H sz v xs):v.lt H.length=true:=by
 obtain ⟨h1,h2⟩:=h
 cases v<;>simp only at h1
 ·simp [AV.lt]
 ·simp only [AV.lt,decide_eq_true_eq]
  exact (List.getElem?_eq_some_iff.1 h1.1).1
theorem SlOk.ltn {sz:Nat} {v:AV} {xs:List AV} (h:SlOk H sz v xs) (m:Nat):v.lt (H.length+m)=true:=by
 obtain ⟨h1,h2⟩:=h
 cases v<;>simp only at h1
 ·simp [AV.lt]
 ·simp only [AV.lt,decide_eq_true_eq]
  have:=(List.getElem?_eq_some_iff.1 h1.1).1
  omega
theorem SlOk.scal {sz:Nat} {v:AV} {xs:List AV} (h:SlOk H sz v xs):v.scalar=true:=by
 obtain ⟨h1,h2⟩:=h
 cases v<;>simp only at h1<;>rfl
theorem SlOk.at {sz:Nat} {v:AV} {xs:List AV} (h:SlOk H sz v xs) {k:Int} {x:AV} (h0:0≤k) (hx:xs[k.toNat]? = some x) :
  (∀ te:Ty,te.size=sz→idxAddr H te v k=some (elA v k 0))∧(∀ off ty,evLoad H ty (elA v k off)=zAy x.cells off ty)∧(∀ off o,addOff (elA v k off) o=some (elA v k (off+o))) ∧
  (∀ (G:Heap) (te:Ty),te.size=sz→idxAddr (H++G) te v k=some (elA v k 0))∧∀ G off ty,evLoad (H++G) ty (elA v k off)=zAy x.cells off ty :=
 ⟨fun te ht=>h.idx ht h0 (List.getElem?_eq_some_iff.1 hx).1,fun off ty=>h.load hx,fun off o=>addOff_elA h,fun G te ht=>(h.app G).idx ht h0 (List.getElem?_eq_some_iff.1 hx).1,fun G off ty=>(h.app G).load hx⟩
theorem elems_sl {f:Bool} {es:List AV}:Ab.elems H (.sl f es)=some es:=rfl
theorem elems_gsl {l n:Nat}:Ab.elems H (.gsl l n)=match H[l]? with
  | some (.grow _ xs)=>if xs.length=n then some xs else none
  | _=>none:=rfl
theorem add_gsl {sz l n:Nat} {a:Bool} {xs ys:List AV} (h:H[l]? = some (.grow sz xs)) (hn:xs.length=n) (hy:zB9 sz a ys=true) (hl:ltL 0 ys=true) (hm:n+ys.length≤1048576) :
  zBo H sz a (.gsl l n) ys=some (.gsl l (n+ys.length),H.set l (.grow sz (xs++ys))):=by
 simp only [zBo,h,hy,hl,Bool.true_and]
 rw [if_pos]
 simp only [decide_eq_true_eq]
 exact ⟨trivial,hn,hm⟩
theorem add_full {sz:Nat} {a:Bool} {xs ys:List AV} (hx:zB9 sz a xs=true) (hlx:ltL 0 xs=true) (hy:zB9 sz a ys=true) (hl:ltL 0 ys=true) (hm:xs.length+ys.length≤1048576) (he:(xs.isEmpty||!ys.isEmpty)=true) :
  zBo H sz a (.sl true xs) ys=some (.gsl H.length (xs.length+ys.length),H++[.grow sz (xs++ys)]):=by
 simp only [zBo,hx,hlx,hy,hl,Bool.true_and,he,if_true]
 rw [if_pos]
 simp only [decide_eq_true_eq]
 exact hm
theorem ltL_map {α:Type} {f:α→AV} {N:Nat} (h:∀ x,(f x).lt N=true):∀ l:List α,ltL N (l.map f)=true
 | []=>rfl
 | x::r=>by simp only [List.map_cons,ltL,h x,ltL_map h r,Bool.and_self]
theorem elemsOk_map {α:Type} {f:α→AV} {sz:Nat} {a:Bool} (h:∀ x,elemOk sz a (f x)=true):∀ l:List α,zB9 sz a (l.map f)=true
 | []=>rfl
 | x::r=>by simp only [List.map_cons,zB9,h x,elemsOk_map h r,Bool.and_self]
theorem SlOk.elems {sz:Nat} {v:AV} {xs:List AV} (h:SlOk H sz v xs):elems H v=some xs:=by
 obtain ⟨h1,h2⟩:=h
 cases v<;>simp only at h1
 ·subst h1;rfl
 ·simp only [Ab.elems,h1.1,h1.2,if_true]
theorem zA6 {H G:Heap} {l:Nat} (h:l<H.length):(H++G)[l]? = H[l]? := List.getElem?_append_left h
theorem set_lt {H G:Heap} {l:Nat} {o:AO} (h:l<H.length):(H++G).set l o=H.set l o++G:=List.set_append_left _ _ h
theorem set_self {H:Heap} {l:Nat} {o:AO} (h:H[l]? = some o):H.set l o=H:=by
 obtain ⟨hl,he⟩:=List.getElem?_eq_some_iff.1 h
 rw [← he]
 exact List.set_getElem_self hl
theorem take_set {H G:Heap} {l:Nat} {o:AO}:(H.set l o++G).take H.length=H.set l o:=by
 rw [List.take_left' (by simp)]
theorem take_setB {H:Heap} {l:Nat} {o:AO}:(H.set l o).take H.length=H.set l o:=by
 rw [List.take_of_length_le (by simp)]
theorem get_at {H G:Heap}:(H++G)[H.length]? = G[0]? := by
 rw [List.getElem?_append_right (Nat.le_refl _),Nat.sub_self]
theorem zAe {H G:Heap} (n:Nat):(H++G)[H.length+n]? = G[n]? := by
 rw [List.getElem?_append_right (Nat.le_add_right _ _),Nat.add_sub_cancel_left]
theorem set_at {H G:Heap} {o:AO}:(H++G).set H.length o=H++G.set 0 o:=by
 rw [List.set_append_right _ _ (Nat.le_refl _),Nat.sub_self]
theorem zBs {H G:Heap} {o:AO} (n:Nat):(H++G).set (H.length+n) o=H++G.set n o:=by
 rw [List.set_append_right _ _ (Nat.le_add_right _ _),Nat.add_sub_cancel_left]
end
end Go.Ab
