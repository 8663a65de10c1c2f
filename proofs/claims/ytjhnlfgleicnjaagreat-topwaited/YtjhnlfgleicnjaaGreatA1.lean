/- The abstract evaluator: values without addresses for immutable slices, a small abstract heap for all else. A definition and its plain facts; it proves nothing of a program by itself. -/
import GoSem.Step
namespace Go.Ab
set_option linter.unusedSimpArgs false
set_option linter.unusedVariables false
inductive AV where
 | int (k:IntKind) (n:Int)
 | bool (b:Bool)
 | nilp
 | ptr (l off:Nat)
 | eptr (l n i off:Nat)
 | vptr (e:AV) (off:Nat)
 | sl (full:Bool) (es:List AV)
 | gsl (l n:Nat)
 | wsl (l n i off:Nat)
 | map (l:Nat)
 | nilmap
 | func (fn:Fn) (first cap:List AV)
 | nilFunc
 | iface (t:TypeId) (v:AV)
 | nilIface
 | agg (cs:List AV)
 | tup (vs:List AV)
 | undef
 deriving Inhabited
def AV.cells:AV→List AV
 | .agg cs=>cs
 | v=>[v]
def AV.stored:AV→Bool
 | .undef=>false
 | .tup _=>false
 | _=>true
def AV.scalar:AV→Bool
 | .undef=>false
 | .tup _=>false
 | .agg _=>false
 | _=>true
def fnLt (N:Nat):Fn→Bool
 | .yield l=>l<N
 | _=>true
mutual
def AV.lt (N:Nat):AV→Bool
 | .ptr l _=>l<N
 | .eptr l _ _ _=>l<N
 | .gsl l _=>l<N
 | .wsl l _ _ _=>l<N
 | .map l=>l<N
 | .func fn a b=>fnLt N fn&&(ltL N a&&ltL N b)
 | .iface _ v=>v.lt N
 | .agg cs=>ltL N cs
 | .tup cs=>ltL N cs
 | _=>true
def ltL (N:Nat):List AV→Bool
 | []=>true
 | v::r=>v.lt N&&ltL N r
end
mutual
def AV.same:AV→AV→Bool
 | .int k n,.int k' n'=>k==k'&&n==n'
 | .bool a,.bool b=>a==b
 | .nilp,.nilp=>true
 | .ptr l o,.ptr l' o'=>l==l'&&o==o'
 | .eptr l n i o,.eptr l' n' i' o'=>l==l'&&n==n'&&i==i'&&o==o'
 | .vptr e o,.vptr e' o'=>e.same e'&&o==o'
 | .sl f es,.sl f' es'=>f==f'&&zBd es es'
 | .gsl l n,.gsl l' n'=>l==l'&&n==n'
 | .wsl l n i o,.wsl l' n' i' o'=>l==l'&&n==n'&&i==i'&&o==o'
 | .map l,.map l'=>l==l'
 | .nilmap,.nilmap=>true
 | .func f a b,.func f' a' b'=>f==f'&&zBd a a'&&zBd b b'
 | .nilFunc,.nilFunc=>true
 | .iface t v,.iface t' v'=>t==t'&&v.same v'
 | .nilIface,.nilIface=>true
 | .agg cs,.agg cs'=>zBd cs cs'
 | .tup cs,.tup cs'=>zBd cs cs'
 | .undef,.undef=>true
 | _,_=>false
def zBd:List AV→List AV→Bool
 | [],[]=>true
 | a::r,b::s=>a.same b&&zBd r s
 | _,_=>false
end
abbrev Env:=List (Nat×AV)
def Env.get:Env→Nat→AV
 | [],_=>.undef
 | (a,v)::r,k=>if a=k then v else Env.get r k
def Env.put (e:Env) (k:Option Nat) (v:AV):Env :=
 match k with
 | some k=>(k,v)::e
 | none=>e
def Env.ofArgs:Nat→List AV→Env
 | _,[]=>[]
 | i,v::r=>(i,v)::Env.ofArgs (i+1) r
def Env.params:Env→List Tmp→List AV→Env
 | e,t::ts,v::vs=>Env.params ((t,v)::e) ts vs
 | e,_,_=>e
inductive ADefer where
 | fn (f:Fn) (args cap:List AV)
 | collected (l:Nat)
def ADefer.lt (N:Nat):ADefer→Bool
 | .fn f a b=>fnLt N f&&(ltL N a&&ltL N b)
 | .collected l=>l<N
structure ALoop where
 state:LoopState
 pending:Option Code
 fn:FuncId
 env:Env
 params:Array Tmp
 assign:Code
 body:Code
 dfr:Nat
def envLt (N:Nat):Env→Bool
 | []=>true
 | (_,v)::r=>v.lt N&&envLt N r
inductive AO where
 | box (v:AV)
 | grow (sz:Nat) (xs:List AV)
 | map (kt:TypeId) (es:List (AV×AV))
 | loop (r:ALoop)
 | dfr
 | dead
 | iter (m n:Nat) (seen:List Nat)
 | dmap (kt:TypeId) (es:List (AV×AV)) (i:Nat)
def AO.mp:AO→Bool
 | .map _ _=>true
 | .dmap _ _ _=>true
 | _=>false
def AO.bx:AO→Bool
 | .box _=>true
 | .iter _ _ _=>true
 | _=>false
def mapLt (N:Nat):List (AV×AV)→Bool
 | []=>true
 | (k,v)::r=>k.lt N&&(v.lt N&&mapLt N r)
def AO.lt (N:Nat):AO→Bool
 | .box v=>v.lt N
 | .grow _ xs=>ltL 0 xs
 | .map _ es=>mapLt N es
 | .dmap _ es _=>mapLt N es
 | .loop r=>envLt N r.env&&r.dfr<N
 | .iter m _ _=>m<N
 | _=>true
def sameM:List (AV×AV)→List (AV×AV)→Bool
 | [],[]=>true
 | (a,b)::r,(c,d)::s=>a.same c&&(b.same d&&sameM r s)
 | _,_=>false
def AO.same:AO→AO→Bool
 | .box v,.box v'=>v.same v'
 | .grow n xs,.grow n' xs'=>n==n'&&zBd xs xs'
 | .map t es,.map t' es'=>t==t'&&sameM es es'
 | _,_=>false
abbrev Heap:=List AO
inductive TyD where
 | struct (fs:List (Nat×TypeId))
 | array (len:Nat) (elem:TypeId)
 | slice (elem:TypeId)
 | map (key elem:TypeId)
 | iface
 | int (k:IntKind)
 | bool
 | other
structure Ty where
 d:TyD
 size:Nat
 bytes:Nat
 zero:Option Value
def Ty.agg (t:Ty):Bool :=
 match t.d with
 | .struct _=>true
 | .array _ _=>true
 | _=>false
def tyDesc:TypeDesc→TyD
 | .struct fs=>.struct (fs.toList.map fun f=>(f.offset,f.type))
 | .array n e=>.array n e
 | .slice e=>.slice e
 | .map k e=>.map k e
 | .interface _=>.iface
 | .int k=>.int k
 | .bool=>.bool
 | _=>.other
def tyOf (P:Program) (t:TypeId):Option Ty :=
 match P.info? t,P.underlying t with
 | some i,some d=>some ⟨tyDesc d,i.size,i.bytes,i.zero⟩
 | _,_=>none
def zB4:Value→AV
 | .int k n=>.int k n
 | .bool b=>.bool b
 | .pointer none=>.nilp
 | .slice none 0 0=>.sl true []
 | .map none=>.nilmap
 | .nilFunc=>.nilFunc
 | .nilIface=>.nilIface
 | _=>.undef
def ofConst:Value→AV
 | .agg cs=>.agg (cs.toList.map zB4)
 | v=>zB4 v
def Ty.zv (t:Ty):AV :=
 match t.zero with
 | some v=>ofConst v
 | none=>.undef
def zAc:List AV→Bool
 | []=>true
 | v::r=>v.scalar&&zAc r
def Ty.zeroOk (t:Ty):Bool :=
 match t.zv with
 | .agg cs=>zAc cs&&(cs.length==t.size&&t.agg)
 | v=>v.scalar&&(t.size==1&&!t.agg)
def zAy (cs:List AV) (off:Nat) (t:Ty):Option AV :=
 if t.agg then
  if off+t.size≤cs.length then some (.agg ((cs.drop off).take t.size)) else none
 else cs[off]?
def splice (cs:List AV) (off:Nat) (new:List AV):List AV:=cs.take off++new++cs.drop (off+new.length)
def AV.withCells (old:AV) (cs:List AV):AV :=
 match old with
 | .agg _=>.agg cs
 | v=>match cs with
  | [c]=>c
  | _=>v
def writePart (v:AV) (off:Nat) (new:AV) (t:Ty):Option AV :=
 if zAc new.cells&&(new.cells.length==t.size&&decide (off+t.size≤v.cells.length)) then some (v.withCells (splice v.cells off new.cells)) else none
def globL:List (Nat×AV):=[]
structure NT where
 k:Nat
 off:Option Nat
 sz:Nat
structure Cfg where
 gc:FuncId→Nat→Option (List Nat×Nat)
 nils:FuncId→Nat→Option (List NT)
 grow:FuncId→Nat→Bool
 plan:FuncId→Nat→Option (List (Nat×Nat))
 glob:Nat→Option AV
 ty:TypeId→Option Ty
 eqt:TypeId→Option (Bool×List (Option IntKind))
 meth:TypeId→String→Option FuncId
 fns:FuncId→Option Func
 srt:FuncId→Bool
 cpt:FuncId→Bool
structure FI where
 fn:FuncId
 round:Option Nat
 dfd:Bool
 base:Nat
structure St where
 env:Env
 dfr:List ADefer
 H:Heap
 pan:Option (AV×Bool)
inductive Out where
 | ret (v:AV)
 | pan (v:AV)
structure Done where
 out:Out
 H:Heap
 pan:Option (AV×Bool)
inductive OpR where
 | val (v:AV) (H:Heap)
 | call (f:Fn) (args cap:List AV)
 | pan (v:AV)
 | dfr (d:ADefer)
 | recov
def opd (C:Cfg) (e:Env):Operand→AV
 | .tmp t=>e.get t
 | .const v=>ofConst v
 | .global g=>match C.glob g with
  | some v=>.vptr v 0
  | none=>.undef
 | .func f=>.func (.func f) [] []
def bitsOp (op:BinOp) (k:IntKind) (x y:Int):Option Int :=
 let a:=BitVec.ofInt k.bits x
 let b:=BitVec.ofInt k.bits y
 match op with
 | .and=>some (k.wrap (a &&& b).toNat)
 | .or=>some (k.wrap (a ||| b).toNat)
 | .xor=>some (k.wrap (a ^^^ b).toNat)
 | .andNot=>some (k.wrap (a &&& ~~~b).toNat)
 | _=>none
def AV.plain:AV→Bool
 | .int _ _=>true
 | .bool _=>true
 | _=>false
def evBin (op:BinOp) (eqT:Bool) (x y:AV):Option AV :=
 match x,y with
 | .int k a,.int k' b =>
  match op with
  | .shl=>if b<0 then none else some (.int k (k.wrap (a*2^(min b.toNat k.bits))))
  | .shr=>if b<0 then none else some (.int k (a.fdiv (2^(min b.toNat k.bits))))
  | _=>if k==k' then
   (match op with
   | .add=>some (.int k (k.wrap (a+b)))
   | .sub=>some (.int k (k.wrap (a-b)))
   | .mul=>some (.int k (k.wrap (a*b)))
   | .quo=>if b=0 then none else some (.int k (k.wrap (a.tdiv b)))
   | .rem=>if b=0 then none else some (.int k (a.tmod b))
   | .eql=>some (.bool (a==b))
   | .neq=>some (.bool (a != b))
   | .lss=>some (.bool (decide (a<b)))
   | .leq=>some (.bool (decide (a≤b)))
   | .gtr=>some (.bool (decide (a>b)))
   | .geq=>some (.bool (decide (a≥b)))
   | op=>(bitsOp op k a b).map (.int k)) else none
 | .bool a,.bool b=>if eqT then (match op with
   | .eql=>some (.bool (a==b))
   | .neq=>some (.bool (a != b))
   | _=>none) else none
 | .agg as,.agg bs=>if eqT then (match op with
   | .eql=>some (.bool (zBd as bs))
   | .neq=>some (.bool (!zBd as bs))
   | _=>none) else none
 | _,_=>none
def eqFields (P:Program) (rec:TypeId→Option (List (Option IntKind))):List Field→Nat→Option (List (Option IntKind))
 | [],_=>some []
 | f::r,off =>
  if f.name != "_" && f.offset==off then
   match rec f.type with
   | some ks=>if P.cellsOf f.type==ks.length then (eqFields P rec r (off+ks.length)).map (ks++·) else none
   | none=>none
  else none
def repL {α:Type} (ks:List α):Nat→List α
 | 0=>[]
 | n+1=>ks++repL ks n
def zAd (P:Program):Nat→TypeId→Option (List (Option IntKind))
 | 0,_=>none
 | d+1,t =>
  match P.underlying t with
  | some .bool=>some [none]
  | some (.int k)=>some [some k]
  | some (.struct fs)=>if P.stoodInHeld t then none else eqFields P (zAd P d) fs.toList 0
  | some (.array n e)=>match zAd P d e with
   | some ks=>if P.cellsOf e==ks.length then some (repL ks n) else none
   | none=>none
  | _=>none
def fits:List (Option IntKind)→List AV→Bool
 | [],[]=>true
 | none::r,.bool _::s=>fits r s
 | some k::r,.int k' _::s=>k==k'&&fits r s
 | _,_=>false
def eqFit (C:Cfg) (t:TypeId) (x:AV):Bool :=
 match C.eqt t with
 | some (st,ks)=>(match x with | .agg _=>st | _=>!st)&&fits ks x.cells
 | none=>false
def eqOk (C:Cfg) (t:TypeId) (x y:AV):Bool :=
 match x,y with
 | .int _ _,.int _ _=>true
 | _,_=>eqFit C t x&&eqFit C t y
def evUn (op:UnOp) (x:AV):Option AV :=
 match op,x with
 | .neg,.int k n=>some (.int k (k.wrap (0-n)))
 | .xor,.int k n=>(bitsOp .xor k (if k.signed then -1 else k.max) n).map (.int k)
 | .not,.bool b=>some (.bool !b)
 | _,_=>none
def maxLenA:Nat:=1048576
def fillA (place:Nat→Option (Nat×Nat)):List AV→List (Nat×AV)→Option (List AV)
 | cs,[]=>some cs
 | cs,(i,v)::r =>
  match place i with
  | none=>none
  | some (off,size)=>if zAc v.cells&&(v.cells.length==size&&decide (off+size≤cs.length)) then fillA place (splice cs off v.cells) r else none
def zAz (C:Cfg):List (Nat×TypeId)→Nat→Option (Nat×Nat)
 | [],_=>none
 | (off,t)::_,0=>(C.ty t).map fun y=>(off,y.size)
 | _::r,i+1=>zAz C r i
def elemOk (sz:Nat) (a:Bool) (v:AV):Bool :=
 match v with
 | .agg cs=>a&&(cs.length==sz&&zAc cs)
 | v=>!a&&(sz==1&&v.scalar)
def zB9 (sz:Nat) (a:Bool):List AV→Bool
 | []=>true
 | v::r=>elemOk sz a v&&zB9 sz a r
def setParts:List AV→List (Nat×AV)→List AV
 | xs,[]=>xs
 | xs,(i,v)::r=>setParts (xs.set i v) r
def elems (H:Heap):AV→Option (List AV)
 | .sl _ es=>some es
 | .gsl l n=>match H[l]? with
  | some (.grow _ xs)=>if xs.length=n then some xs else none
  | _=>none
 | _=>none
def sealG (H:Heap) (base:Nat):AV→AV
 | .gsl l n=>if l<base then .gsl l n else match elems H (.gsl l n) with
  | some xs=>.sl false xs
  | none=>.gsl l n
 | v=>v
def sealV (H:Heap) (base:Nat):AV→AV
 | .agg vs=>.agg (vs.map (sealG H base))
 | v=>sealG H base v
def sealT (H:Heap) (base:Nat):AV→AV
 | .tup vs=>.tup (vs.map (sealV H base))
 | v=>sealV H base v
def zAj (k:AV):List (AV×AV)→Option AV
 | []=>none
 | (k',v)::r=>if k.same k' then some v else zAj k r
def putM (k v:AV):List (AV×AV)→List (AV×AV)
 | []=>[(k,v)]
 | (k',v')::r=>if k.same k' then (k,v)::r else (k',v')::putM k v r
def idxM (k:AV):List (AV×AV)→Nat
 | []=>0
 | (k',_)::r=>if k.same k' then 0 else idxM k r+1
def setM (v:AV):Nat→List (AV×AV)→List (AV×AV)
 | _,[]=>[]
 | 0,(k,_)::r=>(k,v)::r
 | i+1,x::r=>x::setM v i r
def zB0 (H:Heap) (base l:Nat) (v:AV) (o:AO):Option Heap :=
 if v.lt (l+1)||decide (base≤l) then some (H.set l o) else none
def zBo (H:Heap) (sz:Nat) (a:Bool) (x:AV) (ys:List AV):Option (AV×Heap) :=
 match x with
 | .sl true es=>if zB9 sz a ys&&(zB9 sz a es&&(ltL 0 ys&&(ltL 0 es&&decide (es.length+ys.length≤maxLenA)))) then
   (if es.isEmpty||!ys.isEmpty then some (.gsl H.length (es.length+ys.length),H++[.grow sz (es++ys)]) else some (x,H)) else none
 | .gsl l n=>match H[l]? with
  | some (.grow sz' xs)=>if zB9 sz a ys&&(ltL 0 ys&&decide (sz'=sz∧xs.length=n∧n+ys.length≤maxLenA)) then
    some (.gsl l (n+ys.length),H.set l (.grow sz (xs++ys))) else none
  | _=>none
 | _=>none
def sliceElem (C:Cfg):List TypeId→Option TypeId
 | t::_=>match C.ty t with
  | some ⟨.slice e,_,_,_⟩=>some e
  | _=>none
 | []=>none
def evLen (x:AV):Option AV :=
 match x with
 | .sl _ es=>some (.int .i64 es.length)
 | .gsl _ n=>some (.int .i64 n)
 | _=>none
def evAppend (C:Cfg) (H:Heap) (tys:List TypeId) (x y:AV):Option (AV×Heap) :=
 match tys with
 | [t,t']=>match C.ty t with
  | some ⟨.slice e,_,_,_⟩=>match C.ty e,elems H y with
   | some te,some ys=>if te.bytes≤maxLenA&&(te.zeroOk&&t'==t) then zBo H te.size te.agg x ys else none
   | _,_=>none
  | _=>none
 | _=>none
def evCopy (C:Cfg) (H:Heap) (tys:List TypeId) (x y:AV):Option (AV×Heap) :=
 match x,sliceElem C tys with
 | .gsl l n,some e=>match C.ty e,H[l]?,elems H y with
  | some te,some (.grow sz xs),some ys =>
   if ltL 0 ys&&(zB9 te.size te.agg ys&&decide (sz=te.size∧xs.length=n∧xs.length=ys.length)) then some (.int .i64 ys.length,H.set l (.grow sz ys)) else none
  | _,_,_=>none
 | .wsl l n i off,some e=>match C.ty e,H[l]?,elems H y with
  | some te,some (.grow sz xs),some ys =>
   if ltL 0 ys&&(zB9 te.size te.agg ys&&decide (sz=te.size∧xs.length=n∧off=i*te.size∧i+ys.length≤n)) then some (.int .i64 ys.length,H.set l (.grow sz (xs.take i++(ys++xs.drop (i+ys.length))))) else none
  | _,_,_=>none
 | _,_=>none
def lenM (C:Cfg) (H:Heap) (tys:List TypeId) (args:List AV):Option OpR :=
 match tys,args with
 | t::_,[.map l]=>match C.ty t with
  | some ⟨.map _ _,_,_,_⟩=>match H[l]? with
   | some (.map _ es)=>some (.val (.int .i64 es.length) H)
   | _=>none
  | _=>none
 | _,_=>none
def isMapL:List AV→Bool
 | [.map _]=>true
 | _=>false
def zAv (C:Cfg) (H:Heap) (b:Builtin) (tys:List TypeId) (args:List AV):Option OpR :=
 match b with
 | .len=>match args,sliceElem C tys with
  | [x],some _=>(evLen x).map fun v=>.val v H
  | _,_=>lenM C H tys args
 | .min=>match args with
  | [.int k a,.int _ b]=>some (.val (.int k (if b<a then b else a)) H)
  | [.int k a,.int _ b,.int _ c]=>some (.val (.int k (if c<(if b<a then b else a) then c else (if b<a then b else a))) H)
  | _=>none
 | .max=>match args with
  | [.int k a,.int _ b]=>some (.val (.int k (if b>a then b else a)) H)
  | [.int k a,.int _ b,.int _ c]=>some (.val (.int k (if c>(if b>a then b else a) then c else (if b>a then b else a))) H)
  | _=>none
 | .append=>match args with
  | [x,y]=>(evAppend C H tys x y).map fun r=>.val r.1 r.2
  | _=>none
 | .copy=>match args with
  | [x,y]=>(evCopy C H tys x y).map fun r=>.val r.1 r.2
  | _=>none
 | .panic=>match args with
  | [.iface t v]=>some (.pan (.iface t v))
  | _=>none
 | .recover=>match args with
  | []=>some .recov
  | _=>none
 | .delete=>match tys,args with
  | t::_,[.map l,k]=>match C.ty t with
   | some ⟨.map kt _,_,_,_⟩=>if eqFit C kt k then (match H[l]? with
    | some (.map kt' es)=>if kt'=kt∧(zAj k es).isSome=true then some (.val (.tup []) (H.set l (.dmap kt es (idxM k es)))) else none
    | _=>none) else none
   | _=>none
  | _,_=>none
 | _=>none
def zBi (C:Cfg) (H:Heap) (e:Env) (c:Call):Option OpR :=
 let args:=c.args.toList.map (opd C e)
 match c.callee with
 | .builtin b=>zAv C H b c.argTypes.toList args
 | .invoke recv name=>some (.call (.method name) (opd C e recv::args) [])
 | .value f=>match opd C e f with
  | .func fn first cap=>some (.call fn (first++args) cap)
  | _=>none
def addOff (v:AV) (k:Nat):Option AV :=
 match v with
 | .ptr l off=>some (.ptr l (off+k))
 | .eptr l n i off=>some (.eptr l n i (off+k))
 | .vptr x off=>some (.vptr x (off+k))
 | _=>none
def evLoad (H:Heap) (t:Ty) (a:AV):Option AV :=
 match a with
 | .ptr l off=>match H[l]? with
  | some (.box v)=>zAy v.cells off t
  | _=>none
 | .eptr l n i off=>match H[l]? with
  | some (.grow _ xs)=>if xs.length=n then (match xs[i]? with
   | some x=>zAy x.cells off t
   | none=>none) else none
  | _=>none
 | .vptr x off=>zAy x.cells off t
 | _=>none
def evStore (base:Nat) (H:Heap) (t:Ty) (a v:AV):Option Heap :=
 match a with
 | .ptr l off=>match H[l]? with
  | some (.box w)=>match writePart w off v t with
   | some w'=>zB0 H base l v (.box w')
   | none=>none
  | _=>none
 | .eptr l n i off=>match H[l]? with
  | some (.grow sz xs)=>if xs.length=n&&v.lt 0 then (match xs[i]? with
   | some x=>match writePart x off v t with
    | some x'=>some (H.set l (.grow sz (xs.set i x')))
    | none=>none
   | none=>none) else none
  | _=>none
 | _=>none
def methodOf (P:Program) (t:TypeId) (name:String):Option FuncId :=
 match P.info? t,P.underlying t with
 | some i,some d=>match d with
  | .pointer _=>none
  | _=>match i.methods.find? (·.name==name) with
   | some m=>if m.path.isEmpty then (match m.func with
    | some (f,false)=>some f
    | _=>none) else none
   | none=>none
 | _,_=>none
def evZero (P:Program) (H:Heap) (t:TypeId) (i:Nat) (x:AV):Option OpR :=
 match P.underlying t,x with
 | some (.struct fs),.ptr l off=>match fs[i]?,H[l]? with
  | some f,some (.box (.agg []))=>if f.offset=0∧f.byteOffset=0 then some (.val (.ptr l off) H) else none
  | _,_=>none
 | _,_=>none
def noYield:Fn→Bool
 | .yield _=>false
 | _=>true
def isConst:Operand→Bool
 | .const _=>true
 | _=>false
def evNil (P:Program) (op:BinOp) (t:TypeId) (c:Bool) (x y:AV):Option AV :=
 match P.underlying t with
 | some (.interface _) =>
  match op,x,y with
  | .eql,.nilIface,.nilIface=>if c then some (.bool true) else none
  | .neq,.nilIface,.nilIface=>if c then some (.bool false) else none
  | .eql,.iface _ _,.nilIface=>some (.bool false)
  | .neq,.iface _ _,.nilIface=>some (.bool true)
  | .eql,.nilIface,.iface _ _=>some (.bool false)
  | .neq,.nilIface,.iface _ _=>some (.bool true)
  | _,_,_=>none
 | _=>none
def zAs:AV→Bool
 | .sl true []=>true
 | _=>false
def growA (C:Cfg) (F:FI):Operand→Bool
 | .tmp k=>C.grow F.fn k
 | _=>false
def evOp (C:Cfg) (P:Program) (F:FI) (H:Heap) (e:Env) (o:Oper):Option OpR :=
 let ρ:=opd C e
 match o.op with
 | .move x=>some (.val (ρ x) H)
 | .assign x =>
  if C.grow F.fn (o.dst.getD 0)&&zAs (ρ x) then
   match ρ x,C.ty o.type with
   | .sl true [],some ⟨.slice el,_,_,_⟩=>match C.ty el with
    | some te=>some (.val (.gsl H.length 0) (H++[.grow te.size []]))
    | none=>none
   | _,_=>none
  else some (.val (ρ x) H)
 | .pick c a b=>match ρ c with
  | .bool t=>some (.val (if t then ρ a else ρ b) H)
  | _=>none
 | .alloc t=>match C.ty t with
  | some ty=>if C.grow F.fn (o.dst.getD 0)&&zAs ty.zv then
    (match ty with
    | ⟨.slice el,s,_,_⟩=>match C.ty el with
     | some te=>if ty.zeroOk&&elemOk s false (.gsl H.length 0) then some (.val (.ptr (H.length+1) 0) (H++[.grow te.size [],.box (.gsl H.length 0)])) else none
     | none=>none
    | _=>none)
   else if ty.zeroOk then some (.val (.ptr H.length 0) (H++[.box ty.zv])) else none
  | none=>none
 | .box t x=>match C.ty t with
  | some ty=>if C.grow F.fn (o.dst.getD 0)&&zAs (ρ x) then
    (match ty with
    | ⟨.slice el,s,_,_⟩=>match C.ty el with
     | some te=>if elemOk s false (.gsl H.length 0) then some (.val (.ptr (H.length+1) 0) (H++[.grow te.size [],.box (.gsl H.length 0)])) else none
     | none=>none
    | _=>none)
   else if elemOk ty.size ty.agg (ρ x) then some (.val (.ptr H.length 0) (H++[.box (ρ x)])) else none
  | none=>none
 | .build t ps=>match C.ty t with
  | some ty=>if ty.zeroOk then (match ty.d with
   | .struct fs=>(fillA (zAz C fs) ty.zv.cells (ps.toList.map fun (i,x)=>(i,ρ x))).map fun cs=>.val (.agg cs) H
   | .array _ el=>match C.ty el with
    | some te=>(fillA (fun i=>some (i*te.size,te.size)) ty.zv.cells (ps.toList.map fun (i,x)=>(i,ρ x))).map fun cs=>.val (.agg cs) H
    | none=>none
   | _=>none) else none
  | none=>none
 | .buildSlice t len ps=>match C.ty t with
  | some ⟨.slice el,_,_,_⟩=>match C.ty el with
   | some te =>
    let parts:=ps.toList.map fun (i,x)=>(i,ρ x)
    if te.zeroOk&&(len≤1024&&(te.size≤1024&&(parts.all (fun (i,v)=>decide (i<len)&&(elemOk te.size te.agg v&&v.lt 0))))) then
     some (.val (.sl true (setParts (List.replicate len te.zv) parts)) H)
    else none
   | none=>none
  | _=>none
 | .load t a=>match C.ty t with
  | some ty=>(evLoad H ty (ρ a)).map fun v=>.val v H
  | none=>none
 | .store t a x=>match C.ty t with
  | some ty=>if growA C F a&&zAs (ρ x) then
    (match ty with
    | ⟨.slice el,_,_,_⟩=>match C.ty el with
     | some te=>(evStore F.base (H++[.grow te.size []]) ty (ρ a) (.gsl H.length 0)).map fun H'=>.val .undef H'
     | none=>none
    | _=>none)
   else (evStore F.base H ty (ρ a) (ρ x)).map fun H'=>.val .undef H'
  | none=>none
 | .nilCheck x=>match ρ x with
  | .ptr l off=>some (.val (.ptr l off) H)
  | .eptr l n i off=>some (.val (.eptr l n i off) H)
  | .vptr v off=>some (.val (.vptr v off) H)
  | .iface t v=>some (.val (.iface t v) H)
  | .func (.func f) a b=>some (.val (.func (.func f) a b) H)
  | .func (.method n) (.iface t v::a) b=>if (C.meth t n).isSome then some (.val (.func (.method n) (.iface t v::a) b) H) else none
  | _=>none
 | .binOp op t x y _=>match evBin op (eqOk C t (ρ x) (ρ y)) (ρ x) (ρ y) with
  | some v=>some (.val v H)
  | none=>(evNil P op t (isConst x||isConst y) (ρ x) (ρ y)).map fun v=>.val v H
 | .unOp op _ x=>(evUn op (ρ x)).map fun v=>.val v H
 | .convert src dst x=>match C.ty src,C.ty dst,ρ x with
  | some _,some ⟨.int k,_,_,_⟩,.int _ n=>some (.val (.int k (k.wrap n)) H)
  | _,_,_=>none
 | .makeInterface t x=>match C.ty t with
  | some ty=>match ty.d with
   | .iface=>none
   | _=>if (ρ x).stored then some (.val (.iface t (ρ x)) H) else none
  | none=>none
 | .makeFunc fn first cap=>if noYield fn then some (.val (.func fn (first.toList.map ρ) (cap.toList.map ρ)) H) else none
 | .makeMap t none=>match C.ty t with
  | some ⟨.map kt _,_,_,_⟩=>some (.val (.map H.length) (H++[.map kt []]))
  | _=>none
 | .makeSlice t l c=>match C.ty t,ρ l,ρ c with
  | some ⟨.slice el,_,_,_⟩,.int _ n,.int _ m=>match C.ty el with
   | some te=>if te.zeroOk&&(te.bytes≤maxLenA&&(decide (0≤n∧n≤m∧m≤maxLenA)&&te.zv.lt 0)) then
     some (.val (.gsl H.length n.toNat) (H++[.grow te.size (List.replicate n.toNat te.zv)])) else none
   | none=>none
  | _,_,_=>none
 | .slice t x lo hi none=>match C.ty t,ρ x with
  | some ⟨.slice el,_,_,_⟩,.sl _ es=>match C.ty el with
   | some te=>if es.all fun v=>v.cells.length==te.size then
    (match (match lo with | some a=>ρ a | none=>.int .i64 0),(match hi with | some a=>ρ a | none=>.int .i64 es.length) with
    | .int _ l,.int _ h=>if 0≤l∧l≤h∧h≤es.length then some (.val (.sl false ((es.take h.toNat).drop l.toNat)) H) else none
    | _,_=>none) else none
   | none=>none
  | some ⟨.slice el,_,_,_⟩,.gsl l n=>match C.ty el with
   | some te=>(match lo,hi with
    | some a,none=>(match ρ a with
     | .int _ k=>if 0≤k∧k.toNat<n then some (.val (.wsl l n k.toNat (k.toNat*te.size)) H) else none
     | _=>none)
    | _,_=>none)
   | none=>none
  | some ⟨.array len el,_,_,_⟩,.vptr (.agg cs) 0=>match C.ty el with
   | some te=>if (lo.isNone&&hi.isNone)&&(te.size==1&&cs.length==len) then some (.val (.sl false cs) H) else none
   | none=>none
  | _,_=>none
 | .fieldAddr t x i=>match C.ty t with
  | some ⟨.struct fs,_,_,_⟩=>match fs[i]? with
   | some (off,ft)=>match C.ty ft with
    | some fy=>if fy.size=0 then evZero P H t i (ρ x) else (addOff (ρ x) off).map fun v=>.val v H
    | none=>none
   | none=>none
  | _=>none
 | .field t x i=>match C.ty t,ρ x with
  | some ⟨.struct fs,_,_,_⟩,.agg cs=>match fs[i]? with
   | some (off,ft)=>match C.ty ft with
    | some fy=>(zAy cs off fy).map fun v=>.val v H
    | none=>none
   | none=>none
  | _,_=>none
 | .indexAddr t x i=>match C.ty t,ρ i with
  | some ⟨.slice el,_,_,_⟩,.int _ k=>match C.ty el with
   | some te=>match ρ x with
    | .sl _ es=>if 0≤k then (match es[k.toNat]? with
     | some v=>if v.cells.length=te.size then some (.val (.vptr v 0) H) else none
     | none=>none) else none
    | .gsl l n=>match H[l]? with
     | some (.grow sz xs)=>if xs.length=n∧0≤k∧k.toNat<n∧sz=te.size then some (.val (.eptr l n k.toNat 0) H) else none
     | _=>none
    | _=>none
   | none=>none
  | some ⟨.array len el,_,_,_⟩,.int _ k=>match C.ty el with
   | some te=>if 0≤k∧k<len then (addOff (ρ x) (k.toNat*te.size)).map fun v=>.val v H else none
   | none=>none
  | _,_=>none
 | .index t x i=>match C.ty t,ρ x,ρ i with
  | some ⟨.array len el,_,_,_⟩,.agg cs,.int _ k=>match C.ty el with
   | some te=>if 0≤k∧k<len then (zAy cs (k.toNat*te.size) te).map fun v=>.val v H else none
   | none=>none
  | _,_,_=>none
 | .lookup t m k ok=>match C.ty t with
  | some ⟨.map kt et,_,_,_⟩=>if eqFit C kt (ρ k) then (match ρ m with
   | .map l=>match H[l]? with
    | some (.map kt' es)=>if kt'=kt then match zAj (ρ k) es with
     | some v=>some (.val (if ok then .tup [v,.bool true] else v) H)
     | none=>match C.ty et with
      | some te=>if te.zeroOk then some (.val (if ok then .tup [te.zv,.bool false] else te.zv) H) else none
      | none=>none
     else none
    | _=>none
   | _=>none) else none
  | _=>none
 | .mapUpdate t m k x=>match C.ty t with
  | some ⟨.map kt _,_,_,_⟩=>if eqFit C kt (ρ k)&&(ρ x).stored then (match ρ m with
   | .map l=>match H[l]? with
    | some (.map kt' es)=>if kt'=kt then (zB0 H F.base l (ρ x) (.map kt (putM (ρ k) (ρ x) es))).map fun H'=>.val .undef H' else none
    | _=>none
   | _=>none) else none
  | _=>none
 | .insert t m k x=>match C.ty t with
  | some ⟨.map kt _,_,_,_⟩=>if eqFit C kt (ρ k)&&(ρ x).stored then (match ρ m with
   | .map l=>match H[l]? with
    | some (.map kt' es)=>if kt'=kt then (zB0 H F.base l (ρ x) (.map kt (putM (ρ k) (ρ x) es))).map fun H'=>.val .undef H' else none
    | _=>none
   | _=>none) else none
  | _=>none
 | .mapEntry t m k=>match C.ty t with
  | some ⟨.map kt et,_,_,_⟩=>if eqFit C kt (ρ k) then (match ρ m with
   | .map l=>match H[l]? with
    | some (.map kt' es)=>if kt'=kt then (match C.ty et with
     | some te=>if te.zeroOk then (zB0 H F.base l ((zAj (ρ k) es).getD te.zv) (.map kt (putM (ρ k) ((zAj (ρ k) es).getD te.zv) es))).map fun H'=>.val (.tup [(zAj (ρ k) es).getD te.zv,.int .i64 (idxM (ρ k) es)]) H' else none
     | none=>none) else none
    | _=>none
   | _=>none) else none
  | _=>none
 | .entryStore _ m s x=>match ρ m,ρ s with
  | .map l,.int .i64 n=>match H[l]? with
   | some (.map kt es)=>if decide (0≤n∧n.toNat<es.length) then (zB0 H F.base l (ρ x) (.map kt (setM (ρ x) n.toNat es))).map fun H'=>.val .undef H' else none
   | _=>none
  | _,_=>none
 | .range t x=>match C.ty t with
  | some ⟨.map _ _,_,_,_⟩=>match ρ x with
   | .map l=>match H[l]? with
    | some (.map _ es)=>some (.val (.ptr H.length 0) (H++[.iter l es.length []]))
    | some (.dmap _ es _)=>some (.val (.ptr H.length 0) (H++[.iter l es.length []]))
    | _=>none
   | _=>none
  | _=>none
 | .entry it=>match ρ it with
  | .ptr l 0=>match H[l]? with
   | some (.iter m n seen)=>match H[m]?,seen.getLast? with
    | some (.map _ es),some i=>if es.length=n then (match es[i]? with
     | some (k,v)=>some (.val (.tup [k,v]) H)
     | none=>none) else none
    | some (.dmap _ es d),some i=>if es.length=n∧i≠d then (match es[i]? with
     | some (k,v)=>some (.val (.tup [k,v]) H)
     | none=>none) else none
    | _,_=>none
   | _=>none
  | _=>none
 | .typeAssert x _ t ok=>match C.ty t with
  | some ty=>match ty.d with
   | .iface=>none
   | _=>match ρ x with
    | .iface u v=>if u=t then some (.val (if ok then .tup [v,.bool true] else v) H)
     else if ok&&ty.zeroOk then some (.val (.tup [ty.zv,.bool false]) H) else none
    | _=>none
  | none=>none
 | .extract x i=>match ρ x with
  | .tup vs=>match vs[i]? with
   | some v=>some (.val v H)
   | none=>none
  | _=>none
 | .call c=>zBi C H e c
 | .defer c=>match zBi C H e c with
  | some (.call f a b)=>if F.round.isNone then some (.dfr (.fn f a b)) else none
  | _=>none
 | .panic x=>match ρ x with
  | .iface t v=>some (.pan (.iface t v))
  | _=>none
 | _=>none
end Go.Ab
