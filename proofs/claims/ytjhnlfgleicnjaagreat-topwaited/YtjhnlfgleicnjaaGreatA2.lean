/- The abstract evaluator: code, calls, deferred calls, ranges over functions, by fuel; and its limit, which obeys equations without fuel. -/
import Derived.Test.YtjhnlfgleicnjaaGreatA1
namespace Go.Ab
set_option linter.unusedSimpArgs false
set_option linter.unusedVariables false
def codeOk (n:Nat):Code→Bool
 | .region _ ops _=>ops.all fun o=>match o.dst with
  | some d=>decide (d<n)
  | none=>true
 | .seq a b=>codeOk n a&&codeOk n b
 | .cond _ a b=>codeOk n a&&codeOk n b
 | .block _ c=>codeOk n c
 | .loop c=>codeOk n c
 | .scope c=>codeOk n c
 | .rangeFunc _ ps a b=>ps.all (fun t=>decide (t<n))&&(codeOk n a&&codeOk n b)
 | _=>true
def jumpOk:Code→Bool
 | .ret=>true
 | .exit _=>true
 | .goto _=>true
 | _=>false
inductive RR where
 | ok (s:St)
 | pan (v:AV) (s:St)
def zB3 (e:Env):List Nat→Env
 | []=>[]
 | k::r=>(k,e.get k)::zB3 e r
def heapLt (N:Nat):Heap→Bool
 | []=>true
 | o::r=>o.lt N&&heapLt N r
def dfrLt (N:Nat):List ADefer→Bool
 | []=>true
 | d::r=>d.lt N&&dfrLt N r
def gcSt (F:FI) (L:List Nat) (m:Nat) (s:St):Option St :=
 let e:=zB3 s.env L
 let H:=s.H.take (F.base+m)
 if envLt (F.base+m) e&&(heapLt (F.base+m) (H.drop F.base)&&dfrLt (F.base+m) s.dfr) then some { s with env:=e,H:=H } else none
def sealP (H:Heap) (N:Nat) (v:AV):AV :=
 match v with
 | .ptr l off=>match H[l]? with
  | some (.box w)=>if w.lt 0 then .vptr w off else .ptr l off
  | _=>.ptr l off
 | v=>sealV H N v
def sealK (H:Heap) (N:Nat) (v:AV):AV:=if v.lt N then v else sealP H N v
def sealE (H:Heap) (N:Nat):Env→Env
 | []=>[]
 | (k,v)::r=>(k,sealK H N v)::sealE H N r
def sealB (H:Heap) (N:Nat):AO→AO
 | .box v=>.box (sealV H N v)
 | o=>o
def sealO (H:Heap) (N:Nat) (o:AO):AO:=if o.lt N then o else sealB H N o
def sealH (H:Heap) (N:Nat):Heap→Heap
 | []=>[]
 | o::r=>sealO H N o::sealH H N r
def nilT (t:NT) (v:AV) (s:St):St :=
 if zAs v then { s with env:=(t.k,.gsl s.H.length 0)::s.env,H:=s.H++[.grow t.sz []] } else { s with H:=s.H++[.grow t.sz []] }
def nilB (base l off sz:Nat) (o:Option AO) (s:St):St :=
 match o with
 | some (.box (.agg cs))=>if zAs (cs.getD off .undef)&&decide (base≤l) then { s with H:=s.H.set l (.box (.agg (cs.set off (.gsl s.H.length 0))))++[.grow sz []] } else s
 | some (.box (.sl true []))=>if decide (base≤l) then { s with H:=s.H.set l (.box (.gsl s.H.length 0))++[.grow sz []] } else s
 | _=>s
def nilP (base off sz:Nat) (v:AV) (s:St):St :=
 match v with
 | .ptr l _=>nilB base l off sz s.H[l]? s
 | _=>s
def nilSt (base:Nat):List NT→St→St
 | [],s=>s
 | t::r,s=>nilSt base r (match t.off with
  | none=>nilT t (s.env.get t.k) s
  | some off=>nilP base off t.sz (s.env.get t.k) s)
def gcSeal (F:FI) (L:List Nat) (m:Nat) (N:List NT) (s:St):Option St :=
 let e:=sealE s.H (F.base+m) (zB3 s.env L)
 let H:=s.H.take F.base++sealH s.H (F.base+m) ((s.H.drop F.base).take m)
 if envLt (F.base+m) e&&(heapLt (F.base+m) (H.drop F.base)&&dfrLt (F.base+m) s.dfr) then some (nilSt F.base N { s with env:=e,H:=H }) else none
def gcAt (C:Cfg) (F:FI) (id:Nat) (s:St):Option St :=
 match C.gc F.fn id with
 | some (L,m)=>if C.grow F.fn 999997 then none else match C.nils F.fn id with
  | some N=>gcSeal F L m N s
  | none=>gcSt F L m s
 | none=>some s
def zAf (all:List Oper) (e:Env) (o:Oper):Option Bool :=
 match o.guard with
 | none=>some true
 | some (j,w)=>match (all[j]?).bind (·.dst) with
  | some d=>match e.get d with
   | .bool b=>some (b==w)
   | .tup _=>some false
   | _=>none
  | none=>none
def zAl:Op→Bool
 | .store _ _ _=>true
 | .mapUpdate _ _ _ _=>true
 | .insert _ _ _ _=>true
 | .mapEntry _ _ _=>true
 | .entryStore _ _ _ _=>true
 | .defer _=>true
 | .panic _=>true
 | .box _ _=>true
 | .makeMap _ r=>r.isSome
 | .makeSlice _ _ _=>true
 | .range _ _=>true
 | .entry _=>true
 | .next _ _=>true
 | .call { callee:=.builtin .len,.. }=>false
 | .call { callee:=.builtin .min,.. }=>false
 | .call { callee:=.builtin .max,.. }=>false
 | .call _=>true
 | _=>false
inductive RD where
 | obj (l:Nat)
 | key (l:Nat) (k z:AV)
inductive Seen where
 | none
 | obj (o:AO)
 | at (t:TypeId) (v:AV)
def seen (H:Heap):RD→Seen
 | .obj l=>match H[l]? with
  | some o=>.obj o
  | none=>.none
 | .key l k z=>match H[l]? with
  | some (.map t es)=>.at t ((zAj k es).getD z)
  | _=>.none
def keyOf (C:Cfg) (t:TypeId) (l:Nat) (k:AV):RD :=
 match C.ty t with
 | some ⟨.map _ et,_,_,_⟩=>match C.ty et with
  | some te=>if te.zeroOk then .key l k te.zv else .obj l
  | none=>.obj l
 | _=>.obj l
def zAp (C:Cfg) (e:Env):Op→Option RD
 | .load _ a=>match opd C e a with
  | .ptr l _=>some (.obj l)
  | .eptr l _ _ _=>some (.obj l)
  | _=>none
 | .lookup t m k ok=>match opd C e m with
  | .map l=>some (if ok then .obj l else keyOf C t l (opd C e k))
  | _=>none
 | .indexAddr _ x _=>match opd C e x with
  | .gsl l _=>some (.obj l)
  | _=>none
 | .fieldAddr t x i=>match C.ty t with
  | some ⟨.struct fs,_,_,_⟩=>match fs[i]? with
   | some (_,ft)=>match C.ty ft with
    | some fy=>if fy.size=0 then (match opd C e x with
     | .ptr l _=>some (.obj l)
     | _=>none) else none
    | none=>none
   | none=>none
  | _=>none
 | _=>none
def sameAt (a b:Heap):RD→Bool
 | .obj l=>match a[l]?,b[l]? with
  | some x,some y=>x.same y
  | _,_=>false
 | .key l k z=>match a[l]?,b[l]? with
  | some (.map t es),some (.map t' es')=>t==t'&&((zAj k es).getD z).same ((zAj k es').getD z)
  | _,_=>false
def zA5 {α:Type}:List (Nat×α)→Nat→Option α
 | [],_=>none
 | (i,x)::r,k=>if i=k then some x else zA5 r k
abbrev Lds:=List (Nat×RD)
abbrev Efs:=List (Nat×(Heap×Heap))
def pairOk (lds:Lds) (efs:Efs) (p:Nat×Nat):Bool :=
 match zA5 lds p.1,zA5 efs p.2 with
 | some l,some (a,b)=>sameAt a b l
 | _,_=>true
def addLd (i:Nat) (r:Option RD) (lds:Lds):Lds :=
 match r with
 | some l=>(i,l)::lds
 | none=>lds
def zAt (C:Cfg):List Oper→Option Heap
 | []=>some []
 | o::r=>match o.op with
  | .alloc t=>match C.ty t with
   | some ty=>if ty.zeroOk then (zAt C r).map (.box ty.zv::·) else none
   | none=>none
  | .makeMap t none=>match C.ty t with
   | some ⟨.map kt _,_,_,_⟩=>(zAt C r).map (.map kt []::·)
   | _=>none
  | _=>zAt C r
def zAk:Op→Bool
 | .alloc _=>true
 | .makeMap _ none=>true
 | _=>false
def nextL (o:Oper) (l:Nat):Nat:=if zAk o.op then l+1 else l
def lenMap (C:Cfg) (e:Env) (c:Call):Bool :=
 match c.callee with
 | .builtin .len=>isMapL (c.args.toList.map (opd C e))
 | _=>false
def evOpD (C:Cfg) (P:Program) (F:FI) (H:Heap) (e:Env) (o:Oper) (l:Nat):Option OpR :=
 match o.op with
 | .alloc _=>some (.val (.ptr l 0) H)
 | .makeMap _ none=>some (.val (.map l) H)
 | .assign x=>if C.grow F.fn (o.dst.getD 0)&&zAs (opd C e x) then none else evOp C P F H e o
 | .call c=>if lenMap C e c then none else evOp C P F H e o
 | _=>evOp C P F H e o
def addN:List Nat→List Nat→List Nat
 | [],s=>s
 | x::l,s=>if s.contains x then addN l s else addN l (x::s)
def aheads:List Oper→List (List Nat)→List (List Nat)
 | [],acc=>acc
 | o::r,acc=>aheads r (acc++[(o.after.toList.filterMap fun e=>if Region.binds .any e then some e.on else none).foldl (fun s j=>addN (j::acc.getD j []) s) []])
def zBl (all:List Oper) (o:Oper):List Tmp :=
 o.dst.toList++((o.op.operands.toList.filterMap fun | .tmp t=>some t | _=>none)++(match o.guard with
  | some (j,_)=>((all[j]?).bind (·.dst)).toList
  | none=>[]))
def readsOf:Op→Bool
 | .load _ _=>true
 | .lookup _ _ _ _=>true
 | .indexAddr _ _ _=>true
 | .fieldAddr _ _ _=>true
 | _=>false
def pairFine (all:List Oper) (ah:List (List Nat)) (ps:List (Nat×Nat)) (i j:Nat) (a b:Oper):Bool :=
 (ah.getD j []).contains i ||
  (!(zAl a.op&&zAl b.op)&&(match a.dst with
   | some d=>!(zBl all b).contains d
   | none=>true)&&(match b.dst with
   | some d=>!(zBl all a).contains d
   | none=>true)&&(!(readsOf a.op&&zAl b.op)||ps.contains (i,j))&&(!(zAl a.op&&readsOf b.op)||ps.contains (j,i)))
def planRow (all:List Oper) (ah:List (List Nat)) (ps:List (Nat×Nat)) (j:Nat) (b:Oper):Nat→List Oper→Bool
 | _,[]=>true
 | i,a::r=>if i<j then pairFine all ah ps i j a b&&planRow all ah ps j b (i+1) r else true
def planRows (all:List Oper) (ah:List (List Nat)) (ps:List (Nat×Nat)):Nat→List Oper→Bool
 | _,[]=>true
 | j,b::r=>(b.after.toList.all fun e=>!Region.binds .any e||decide (e.on<j))&&(planRow all ah ps j b 0 all&&planRows all ah ps (j+1) r)
def ranked (m:Region.Mode) (opl:Array Oper) (ord:List Nat):Bool :=
 (List.range opl.size).all fun j=>match opl[j]? with
  | some o=>o.after.toList.all fun e=>!Region.binds m e||(decide (e.on<opl.size)&&decide (ord.idxOf e.on<ord.idxOf j))
  | none=>true
def hasPr:List (Nat×Nat)→Nat→Nat→Bool
 | [],_,_=>false
 | (a,b)::r,i,j=>(a==i&&b==j)||hasPr r i j
def deadOk (ah:List (List Nat)):List (Nat×Nat)→Bool
 | []=>true
 | (a,b)::r=>(decide (b<1000)||(ah.getD a []).contains (b-1000))&&deadOk ah r
def dpan (C:Cfg) (P:Program) (F:FI) (all:List Oper) (ps:List (Nat×Nat)) (i:Nat) (H:Heap):Nat→List Oper→Nat→Env→Lds→Option Lds
 | _,[],_,_,lds=>some lds
 | j,o::r,l,e,lds =>
  if hasPr ps j (1000+i) then dpan C P F all ps i H (j+1) r (nextL o l) (e.put o.dst .undef) lds
  else if zAl o.op then none
  else match zAf all e o with
   | none=>none
   | some false=>dpan C P F all ps i H (j+1) r (nextL o l) (e.put o.dst (.tup [])) lds
   | some true=>match evOpD C P F H e o l with
    | some (.val v _)=>dpan C P F all ps i H (j+1) r (nextL o l) (e.put o.dst v) (addLd j (zAp C e o.op) lds)
    | _=>none
def badT (ps:List (Nat×Nat)) (i:Nat):Nat→List Oper→Nat→Bool
 | _,[],_=>false
 | j,o::r,t=>(!hasPr ps j (1000+i)&&o.dst==some t)||badT ps i (j+1) r t
def panEnv (ps:List (Nat×Nat)) (i:Nat) (all:List Oper) (e:Env):Env:=e.filter fun x=>!badT ps i 0 all x.1
def planOk (P:Program) (opl:Array Oper) (ps:List (Nat×Nat)):Bool :=
 ((P.follows .mixedOrders||!Region.departs opl)||(ranked .text opl (List.range opl.size)&&ranked .gc opl (Region.linearise .gc opl 0)))&&(deadOk (aheads opl.toList []) ps&&planRows opl.toList (aheads opl.toList []) ps 0 opl.toList)
def endRound (l:Nat) (jump:Option Code) (s:St):Option Done :=
 match s.H[l]?,s.dfr with
 | some (.loop r),[]=>some ⟨.ret (.bool jump.isNone),s.H.set l (.loop { r with state:=if jump.isNone then .ready else .done,pending:=jump }),s.pan⟩
 | _,_=>none
def readRes (C:Cfg) (H:Heap) (e:Env):List ResultVar→Option (List AV)
 | []=>some []
 | .tmp t::r=>(readRes C H e r).map (e.get t::·)
 | .cell a t::r=>match C.ty t with
  | some ty=>match evLoad H ty (e.get a) with
   | some v=>(readRes C H e r).map (v::·)
   | none=>none
  | none=>none
def packRes:List AV→AV
 | [v]=>v
 | vs=>.tup vs
def zAi (base:Nat) (d:Done):Done :=
 match d.out with
 | .ret v=>if (sealT d.H base v).lt base then ⟨.ret (sealT d.H base v),d.H.take base,d.pan⟩ else d
 | .pan v=>if v.lt base then ⟨.pan v,d.H.take base,d.pan⟩ else d
def finK (b:Bool) (base:Nat) (d:Done):Done:=if b then d else zAi base d
def gIdx (N:Nat):List AV→Option Nat
 | []=>none
 | .gsl l _::r=>if N≤l then some l else gIdx N r
 | _::r=>gIdx N r
def reV (N i:Nat) (v:AV):AV:=match v with
 | .gsl l n=>if l=i then .gsl N n else .gsl l n
 | v=>v
def reOk (N i:Nat) (v:AV):Bool:=match v with
 | .gsl l _=>l==i||decide (l<N)
 | v=>v.lt N
def finG (base:Nat) (d:Done):Done :=
 match d.out with
 | .ret (.tup vs)=>match gIdx base vs with
  | some i=>match d.H[i]? with
   | some (.grow sz xs)=>if (decide (base≤i)&&ltL 0 xs)&&vs.all (reOk base i) then ⟨.ret (.tup (vs.map (reV base i))),d.H.take base++[.grow sz xs],d.pan⟩ else d
   | _=>d
  | none=>zAi base d
 | _=>zAi base d
def finN (k r:Bool) (base:Nat) (d:Done):Done:=if k then finK true base d else if r then finG base d else zAi base d
def nextVals (es:List (AV×AV)) (seen:List Nat):List (AV×List Nat) :=
 match (List.range es.length).filter fun i=>!seen.contains i with
 | []=>[(.tup [.bool false],seen)]
 | l=>l.map fun i=>(.tup [.bool true,(es.getD i (.undef,.undef)).1,(es.getD i (.undef,.undef)).2],seen++[i])
def nextValsD (es:List (AV×AV)) (d:Nat) (seen:List Nat):List (AV×List Nat) :=
 match (List.range es.length).filter fun i=>!seen.contains i&&i != d with
 | []=>[(.tup [.bool false],seen)]
 | l=>l.map fun i=>(.tup [.bool true,(es.getD i (.undef,.undef)).1,(es.getD i (.undef,.undef)).2],seen++[i])
def nextOf (C:Cfg) (all:List Oper) (s:St):Option (List St) :=
 match all with
 | o::_=>match o.op,o.guard with
  | .next it false,none=>match opd C s.env it with
   | .ptr l 0=>match s.H[l]? with
    | some (.iter m n seen)=>match s.H[m]? with
     | some (.map _ es)=>if es.length=n then
       some ((nextVals es seen).map fun p=>{ s with env:=s.env.put o.dst p.1,H:=s.H.set l (.iter m n p.2) }) else none
     | some (.dmap _ es d)=>if es.length=n then
       some ((nextValsD es d seen).map fun p=>{ s with env:=s.env.put o.dst p.1,H:=s.H.set l (.iter m n p.2) }) else none
     | _=>none
    | _=>none
   | _=>none
  | _,_=>none
 | []=>none
def isNext (all:List Oper):Bool :=
 match all with
 | o::_=>match o.op with
  | .next _ _=>true
  | _=>false
 | []=>false
noncomputable def oneOf (l:List (Option Done)):Option Done :=
 open Classical in if h:∃ d,l≠[]∧∀ x∈l,x=some d then some h.choose else none
theorem oneOf_some {l:List (Option Done)} {d:Done}:oneOf l=some d↔l≠[]∧∀ x∈l,x=some d:=by
 constructor
 ·intro h
  unfold oneOf at h
  split at h
  ·rename_i hx
   cases h
   exact hx.choose_spec
  ·cases h
 ·intro h
  have hx:∃ d,l≠[]∧∀ x∈l,x=some d:=⟨d,h⟩
  unfold oneOf
  rw [dif_pos hx]
  obtain ⟨h1,h2⟩:=hx.choose_spec
  obtain ⟨x,r,rfl⟩:=List.exists_cons_of_ne_nil h1
  have e1:=h2 x (by simp)
  have e2:=h.2 x (by simp)
  rw [← e1,e2]
def intsOf:List AV→Option (List Int)
 | []=>some []
 | .int .i64 n::r=>(intsOf r).map (n::·)
 | _=>none
def dedupI:List Int→List Int
 | []=>[]
 | [x]=>[x]
 | x::y::r=>if x=y then dedupI (y::r) else x::dedupI (y::r)
def compF (dfd:Bool) (args:List AV) (H:Heap) (pan:Option (AV×Bool)):Option Done :=
 match dfd,args with
 | false,[.gsl l n]=>match H[l]? with
  | some (.grow 1 xs)=>match intsOf xs with
   | some zs=>if xs.length=n∧n≠0∧n<1048576 then some ⟨.ret (.sl false ((dedupI zs).map (.int .i64))),H.set l (.grow 1 (.int .i64 0::xs)),pan⟩ else none
   | none=>none
  | _=>none
 | _,_=>none
def sortF (dfd:Bool) (args:List AV) (H:Heap) (pan:Option (AV×Bool)):Option Done :=
 match dfd,args with
 | false,[.gsl l n]=>match H[l]? with
  | some (.grow 1 xs)=>match intsOf xs with
   | some zs=>if xs.length=n∧n≠0∧n<1048576 then some ⟨.ret (.tup []),H.set l (.grow 1 ((zs.mergeSort fun x y=>decide (x≤y)).map (.int .i64))),pan⟩ else none
   | none=>none
  | _=>none
 | _,_=>none
inductive KSt where
 | exec (F:FI) (todo:List Item) (s:St)
 | ops (F:FI) (all rest:List Oper) (k:List Item) (s:St)
 | endL (F:FI) (k:List Item) (L:Nat) (s:St) (d:Done)
 | call (g:FuncId) (args:List AV) (H:Heap)
 | fin (d:Done)
 | stuck
inductive KR where
 | done (d:Done)
 | alts (l:List KSt)
 | call (a:KSt) (r:Done→KSt)
 | none
structure KX where
 cv:Nat→Fn→List AV→List AV→Heap→Option Done
 dr:FI→Nat→Array Oper→St→Option RR
 lv:FI→Option Code→St→Option Done
def kDone:Option Done→KR
 | some d=>.done d
 | none=>.none
def kExec (F:FI) (k:List Item):Option RR→KR
 | some (.ok s)=>.alts [.exec F k s]
 | _=>.none
def kRet (F:FI) (all r:List Oper) (k:List Item) (e:Env) (dst:Option Tmp) (df:List ADefer) (pn:Option (AV×Bool)) (d:Done):KSt :=
 match d.out with
 | .ret v=>.ops F all r k ⟨e.put dst v,df,d.H,pn⟩
 | .pan _=>.stuck
def kCv (F:FI) (all r:List Oper) (k:List Item) (e:Env) (dst:Option Tmp) (df:List ADefer) (pn:Option (AV×Bool)):Option Done→KR
 | some d=>.alts [kRet F all r k e dst df pn d]
 | none=>.none
def kFn (C:Cfg):Fn→Option FuncId
 | .func g=>if C.grow g 999996 then some g else none
 | _=>none
def kOp (C:Cfg) (X:KX) (F:FI) (all r:List Oper) (k:List Item) (e:Env) (dst:Option Tmp) (df:List ADefer) (H:Heap) (pn:Option (AV×Bool)):Option OpR→KR
 | some (.val v H')=>.alts [.ops F all r k ⟨e.put dst v,df,H',pn⟩]
 | some (.call f a c)=>match kFn C f with
  | some g=>.call (.call g (a++c) H) (kRet F all r k e dst df pn)
  | none=>kCv F all r k e dst df pn (X.cv F.base f a c H)
 | _=>.none
def kRange (C:Cfg) (F:FI) (params:Array Tmp) (assign body:Code) (k:List Item) (e:Env) (df:List ADefer) (H:Heap) (pn:Option (AV×Bool)):AV→KR
 | .func f first cap=>match kFn C f,F.round with
  | some g,none=>.call (.call g (first++[.func (.yield (H.length+1)) [] []]++cap) (H++[.dfr,.loop ⟨.ready,none,F.fn,e,params,assign,body,H.length⟩]))
    (.endL F k (H.length+1) ⟨e,.collected H.length::df,H,pn⟩)
  | _,_=>.none
 | _=>.none
def zAn (C:Cfg) (P:Program) (X:KX):KSt→KR
 | .exec F todo s=>match todo with
  | []=>kDone (X.lv F none s)
  | .code .ret::_=>kDone (X.lv F (some .ret) s)
  | .code .skip::k=>.alts [.exec F k s]
  | .inBlock _::k=>.alts [.exec F k s]
  | .inScope _::k=>.alts [.exec F k s]
  | .code (.label _)::k=>.alts [.exec F k s]
  | .code (.seq a b)::k=>.alts [.exec F (.code a::.code b::k) s]
  | .code (.cond c x y)::k =>
   match opd C s.env c with
   | .bool true=>.alts [.exec F (.code x::k) s]
   | .bool false=>.alts [.exec F (.code y::k) s]
   | _=>.none
  | .code (.block id body)::k=>.alts [.exec F (.code body::.inBlock id::k) s]
  | .code (.loop body)::k=>.alts [.exec F (.code body::.inLoop body::k) s]
  | .inLoop body::k=>.alts [.exec F (.code body::.inLoop body::k) s]
  | .code (.scope body)::k=>.alts [.exec F (.code body::.inScope body::k) s]
  | .code (.exit id)::k =>
   match exitTo id k with
   | some k'=>.alts [.exec F k' s]
   | none=>.none
  | .code (.region id opl draw)::k =>
   match gcAt C F id s with
   | none=>.none
   | some s =>
    if draw then kExec F k (X.dr F id opl s)
    else if isNext opl.toList then (match nextOf C opl.toList s with
     | some l=>.alts (l.map fun s1=>.ops F opl.toList opl.toList.tail k s1)
     | none=>.none)
    else .alts [.ops F opl.toList opl.toList k s]
  | .code (.rangeFunc f params assign body)::k=>kRange C F params assign body k s.env s.dfr s.H s.pan (opd C s.env f)
  | _=>.none
 | .ops F all rest k s=>match rest with
  | []=>.alts [.exec F k s]
  | o::r=>match zAf all s.env o with
   | none=>.none
   | some false=>.alts [.ops F all r k { s with env:=s.env.put o.dst (.tup []) }]
   | some true=>kOp C X F all r k s.env o.dst s.dfr s.H s.pan (evOp C P F s.H s.env o)
 | .endL F k L s d =>
  match d.out with
  | .pan _=>.none
  | .ret _=>match d.H[L]? with
   | some (.loop r)=>if r.state=.busy then .none else
     .alts [.exec F ((r.pending.map Item.code).toList++k) { s with H:=d.H.set L (.loop { r with state:=.exhausted }) }]
   | _=>.none
 | .call g args H =>
  match C.fns g with
  | none=>.none
  | some fn=>match fn.body with
   | none=>.none
   | some c=>if C.grow g 999997 then .none else if args.length≤fn.ntmps then
     .call (.exec ⟨g,none,false,H.length⟩ [.code c] ⟨Env.ofArgs 0 args,[],H,none⟩) (fun d=>.fin (finN (C.grow g 999999) (C.grow g 999998) H.length d))
    else .none
 | .fin d=>.done d
 | .stuck=>.none
inductive KRun (C:Cfg) (P:Program) (X:KX):KSt→(Done→Prop)→Prop
 | done {a:KSt} {Q:Done→Prop} {d:Done} (h:zAn C P X a=.done d) (hq:Q d):KRun C P X a Q
 | alts {a:KSt} {Q:Done→Prop} {l:List KSt} (h:zAn C P X a=.alts l) (hn:l≠[]) (hk:∀ b∈l,KRun C P X b Q):KRun C P X a Q
 | call {a:KSt} {Q R:Done→Prop} {b:KSt} {r:Done→KSt} (h:zAn C P X a=.call b r) (h1:KRun C P X b R) (h2:∀ d,R d→KRun C P X (r d) Q):KRun C P X a Q
noncomputable def pickD (p:Done→Prop):Option Done :=
 open Classical in if h:∃ d,p d then some h.choose else none
theorem pickD_some {p:Done→Prop} {d:Done} (h:pickD p=some d):p d:=by
 unfold pickD at h
 split at h
 ·rename_i hx
  cases h
  exact hx.choose_spec
 ·cases h
theorem pickD_eq {p:Done→Prop} {d:Done} (h:p d) (hu:∀ d',p d'→d'=d):pickD p=some d:=by
 unfold pickD
 rw [dif_pos ⟨d,h⟩]
 exact congrArg some (hu _ (Exists.choose_spec (⟨d,h⟩:∃ d,p d)))
mutual
noncomputable def exec (C:Cfg) (P:Program):Nat→FI→List Item→St→Option Done
 | 0,_,_,_=>none
 | n+1,F,todo,s =>
  match todo with
  | []=>leave C P n F none s
  | .code .ret::_=>leave C P n F (some .ret) s
  | .code .skip::k=>exec C P n F k s
  | .inBlock _::k=>exec C P n F k s
  | .inScope _::k=>exec C P n F k s
  | .code (.label _)::k=>exec C P n F k s
  | .code (.seq a b)::k=>exec C P n F (.code a::.code b::k) s
  | .code (.cond c x y)::k =>
   match opd C s.env c with
   | .bool true=>exec C P n F (.code x::k) s
   | .bool false=>exec C P n F (.code y::k) s
   | _=>none
  | .code (.block id body)::k=>exec C P n F (.code body::.inBlock id::k) s
  | .code (.loop body)::k=>exec C P n F (.inLoop body::k) s
  | .inLoop body::k=>exec C P n F (.code body::.inLoop body::k) s
  | .code (.scope body)::k=>exec C P n F (.code body::.inScope body::k) s
  | .code (.exit id)::k =>
   match exitTo id k with
   | some k'=>exec C P n F k' s
   | none=>leave C P n F (some (.exit id)) s
  | .code (.goto l)::k =>
   match gotoIn l k with
   | some k'=>exec C P n F k' s
   | none=>leave C P n F (some (.goto l)) s
  | .code (.region id opl draw)::k =>
   match gcAt C F id s with
   | none=>none
   | some s =>
    if draw then
     match drawn C P n F id opl s with
     | some (.ok s')=>exec C P n F k s'
     | some (.pan v s')=>unw C P n F (some (v,false)) s'
     | none=>none
    else if isNext opl.toList then match nextOf C opl.toList s with
     | some l=>oneOf (l.map fun s1=>match ops C P n F opl.toList opl.toList.tail s1 with
      | some (.ok s')=>exec C P n F k s'
      | some (.pan v s')=>unw C P n F (some (v,false)) s'
      | none=>none)
     | none=>none
    else match ops C P n F opl.toList opl.toList s with
     | some (.ok s')=>exec C P n F k s'
     | some (.pan v s')=>unw C P n F (some (v,false)) s'
     | none=>none
  | .code (.rangeFunc f params assign body)::k =>
   match opd C s.env f with
   | .func fn first cap =>
    match F.round with
    | none =>
     match zAx C P n F.base false fn (first++[.func (.yield (s.H.length+1)) [] []]) cap
       (s.H++[.dfr,.loop ⟨.ready,none,F.fn,s.env,params,assign,body,s.H.length⟩]) none with
     | some d=>endLoop C P n F k (s.H.length+1) { s with dfr:=.collected s.H.length::s.dfr } d
     | none=>none
    | some l0 =>
     match s.H[l0]? with
     | some (.loop r0) =>
      match zAx C P n F.base false fn (first++[.func (.yield s.H.length) [] []]) cap
        (s.H++[.loop ⟨.ready,none,F.fn,s.env,params,assign,body,r0.dfr⟩]) none with
      | some d=>endLoop C P n F k s.H.length s d
      | none=>none
     | _=>none
   | _=>none
  | .beginRound::k =>
   match F.round with
   | some l=>match s.H[l]? with
    | some (.loop r)=>if r.state=.ready then exec C P n F k { s with H:=s.H.set l (.loop { r with state:=.busy }) } else none
    | _=>none
   | none=>none
  | _=>none
 termination_by structural n=>n
noncomputable def leave (C:Cfg) (P:Program):Nat→FI→Option Code→St→Option Done
 | 0,_,_,_=>none
 | n+1,F,jump,s =>
  match F.round with
  | some l=>endRound l jump s
  | none=>match jump with
   | none=>unw C P n F none s
   | some .ret=>unw C P n F none s
   | _=>none
 termination_by structural n=>n
noncomputable def endLoop (C:Cfg) (P:Program):Nat→FI→List Item→Nat→St→Done→Option Done
 | 0,_,_,_,_,_=>none
 | n+1,F,k,L,s,d =>
  match d.out with
  | .pan v=>unw C P n F (some (v,false)) { s with H:=d.H }
  | .ret _=>match d.H[L]? with
   | some (.loop r)=>if r.state=.busy then none else
     exec C P n F ((r.pending.map Item.code).toList++k) { s with H:=d.H.set L (.loop { r with state:=.exhausted }) }
   | _=>none
 termination_by structural n=>n
noncomputable def unw (C:Cfg) (P:Program):Nat→FI→Option (AV×Bool)→St→Option Done
 | 0,_,_,_=>none
 | n+1,F,mode,s =>
  match s.dfr with
  | .collected l::ds=>match s.H[l]? with
   | some .dfr=>unw C P n F mode { s with dfr:=ds,H:=s.H.set l .dead }
   | _=>none
  | .fn f a c::ds=>match zAx C P n F.base true f a c s.H mode with
   | some ⟨.ret _,H',pan'⟩=>(match mode,pan' with
    | some _,some (_,true)=>unw C P n F none { s with dfr:=ds,H:=H' }
    | _,_=>unw C P n F mode { s with dfr:=ds,H:=H' })
   | _=>none
  | []=>match mode with
   | some (v,false)=>some ⟨.pan v,s.H,s.pan⟩
   | some (_,true)=>none
   | none=>match C.fns F.fn,F.round with
    | some fn,none=>match readRes C s.H s.env fn.results.toList with
     | some vs=>some ⟨.ret (packRes vs),s.H,s.pan⟩
     | none=>none
    | _,_=>none
 termination_by structural n=>n
noncomputable def ops (C:Cfg) (P:Program):Nat→FI→List Oper→List Oper→St→Option RR
 | 0,_,_,_,_=>none
 | n+1,F,all,rest,s =>
  match rest with
  | []=>some (.ok s)
  | o::r=>match zAf all s.env o with
   | none=>none
   | some false=>ops C P n F all r { s with env:=s.env.put o.dst (.tup []) }
   | some true=>match evOp C P F s.H s.env o with
    | none=>none
    | some (.val v H')=>ops C P n F all r { s with env:=s.env.put o.dst v,H:=H' }
    | some (.call f a c)=>match zAx C P n F.base false f a c s.H none with
     | some ⟨.ret v,H',_⟩=>ops C P n F all r { s with env:=s.env.put o.dst v,H:=H' }
     | some ⟨.pan v,H',_⟩=>some (.pan v { s with H:=H' })
     | none=>none
    | some (.pan v)=>some (.pan v s)
    | some (.dfr d)=>ops C P n F all r { s with env:=s.env.put o.dst (.tup []),dfr:=d::s.dfr }
    | some .recov=>match F.round,F.dfd,s.pan with
     | none,true,some (v,false)=>ops C P n F all r { s with env:=s.env.put o.dst v,pan:=some (v,true) }
     | none,_,_=>ops C P n F all r { s with env:=s.env.put o.dst .nilIface }
     | _,_,_=>none
 termination_by structural n=>n
noncomputable def drawn (C:Cfg) (P:Program):Nat→FI→Nat→Array Oper→St→Option RR
 | 0,_,_,_,_=>none
 | n+1,F,id,opl,s =>
  match C.plan F.fn id,zAt C opl.toList with
  | some ps,some ph=>if planOk P opl ps then dops C P n F opl.toList ps 0 opl.toList s.H.length { s with H:=s.H++ph } [] [] else none
  | _,_=>none
 termination_by structural n=>n
noncomputable def dops (C:Cfg) (P:Program):Nat→FI→List Oper→List (Nat×Nat)→Nat→List Oper→Nat→St→Lds→Efs→Option RR
 | 0,_,_,_,_,_,_,_,_,_=>none
 | n+1,F,all,ps,i,rest,l,s,lds,efs =>
  match rest with
  | []=>if ps.all (pairOk lds efs) then some (.ok s) else none
  | o::r =>
   match zAf all s.env o with
   | none=>none
   | some false=>dops C P n F all ps (i+1) r (nextL o l) { s with env:=s.env.put o.dst (.tup []) } lds efs
   | some true=>match evOpD C P F s.H s.env o l with
    | some (.val v H') =>
     if zAl o.op then dops C P n F all ps (i+1) r (nextL o l) { s with env:=s.env.put o.dst v,H:=H' } lds ((i,(s.H,H'))::efs)
     else dops C P n F all ps (i+1) r (nextL o l) { s with env:=s.env.put o.dst v } (addLd i (zAp C s.env o.op) lds) efs
    | some (.call f a c)=>match zAx C P n F.base false f a c s.H none with
     | some ⟨.ret v,H',_⟩=>dops C P n F all ps (i+1) r (nextL o l) { s with env:=s.env.put o.dst v,H:=H' } lds ((i,(s.H,H'))::efs)
     | some ⟨.pan v,H',_⟩=>match dpan C P F all ps i s.H (i+1) r (nextL o l) (s.env.put o.dst .undef) lds with
      | some lds'=>if ps.all (pairOk lds' efs) then some (.pan v { s with env:=panEnv ps i all s.env,H:=H' }) else none
      | none=>none
     | none=>none
    | _=>none
 termination_by structural n=>n
noncomputable def callF (C:Cfg) (P:Program):Nat→Bool→FuncId→List AV→Heap→Option (AV×Bool)→Option Done
 | 0,_,_,_,_,_=>none
 | n+1,dfd,g,args,H,pan =>
  match C.fns g with
  | none=>if C.srt g then sortF dfd args H pan else if C.cpt g then compF dfd args H pan else none
  | some fn=>match fn.body with
   | none=>none
   | some c=>if args.length≤fn.ntmps then
     (exec C P n ⟨g,none,dfd,H.length⟩ [.code c] ⟨Env.ofArgs 0 args,[],H,pan⟩).map (finN (C.grow g 999999) (C.grow g 999998) H.length)
    else none
 termination_by structural n=>n
noncomputable def callB (C:Cfg) (P:Program):Nat→Nat→FuncId→List AV→Heap→Option Done
 | 0,_,_,_,_=>none
 | n+1,base,g,args,H =>
  match C.fns g with
  | none=>none
  | some fn=>match fn.body with
   | none=>none
   | some c=>if args.length≤fn.ntmps then exec C P n ⟨g,none,false,base⟩ [.code c] ⟨Env.ofArgs 0 args,[],H,none⟩ else none
 termination_by structural n=>n
noncomputable def zAx (C:Cfg) (P:Program):Nat→Nat→Bool→Fn→List AV→List AV→Heap→Option (AV×Bool)→Option Done
 | 0,_,_,_,_,_,_,_=>none
 | n+1,base,dfd,f,args,cap,H,pan =>
  match f with
  | .func g=>if C.grow g 999997 then (if dfd then none else callB C P n base g (args++cap) H)
   else if C.grow g 999995 then (if dfd then none else pickD fun D=>KRun C P ⟨fun b f a c H=>zAx C P n b false f a c H none,fun F id opl s=>drawn C P n F id opl s,fun F j s=>leave C P n F j s⟩ (.call g (args++cap) H) (·=D))
   else callF C P n dfd g (args++cap) H pan
  | .method name=>match args with
   | .iface t v::rest=>match C.meth t name with
    | some g=>callF C P n dfd g (v::rest) H pan
    | none=>none
   | _=>none
  | .methodOf t name=>match args with
   | v::rest=>match C.ty t with
    | some ty=>match ty.d with
     | .iface=>(match v with
      | .iface t' v'=>match C.meth t' name with
       | some g=>callF C P n dfd g (v'::rest) H pan
       | none=>none
      | _=>none)
     | _=>match C.meth t name with
      | some g=>callF C P n dfd g (v::rest) H pan
      | none=>none
    | none=>none
   | []=>none
  | .yield l=>if dfd then none else match H[l]? with
   | some (.loop r)=>if args.length=r.params.size then
     (exec C P n ⟨r.fn,some l,false,H.length⟩ [.code r.assign,.beginRound,.code r.body] ⟨Env.params r.env r.params.toList args,[],H,none⟩).map (zAi H.length)
    else none
   | _=>none
  | _=>none
 termination_by structural n=>n
end
end Go.Ab
