/-
  Steps of a region that asks for an order.
-/
import Derived.Test.YtmbdllgegkpfkaaS1
namespace Go.Ab
set_option linter.unusedSimpArgs false
set_option linter.unusedVariables false

section
variable {C : Cfg} {P : Program} {F : FI} {k : List Item} {H : Heap} {e : Env} {df : List ADefer} {pn : Option (AV × Bool)} {d : Option Tmp} {t : TypeId} {p : String} {a : Array Edge} {all r : List Oper} {g : Option (Nat × Bool)}

def planK (o : Option (List (Nat × Nat))) (k : List (Nat × Nat) → Option RR) : Option RR :=
  match o with
  | some ps => k ps
  | none => none

@[congr] theorem planK_congr {o o' : Option (List (Nat × Nat))} {k : List (Nat × Nat) → Option RR} (h : o = o') : planK o k = planK o' k := by rw [h]
theorem planK_some {ps : List (Nat × Nat)} {k : List (Nat × Nat) → Option RR} : planK (some ps) k = k ps := rfl

def phK (o : Option Heap) (k : Heap → Option RR) : Option RR :=
  match o with
  | some ps => k ps
  | none => none

@[congr] theorem phK_congr {o o' : Option Heap} {k : Heap → Option RR} (h : o = o') : phK o k = phK o' k := by rw [h]
theorem phK_some {ps : Heap} {k : Heap → Option RR} : phK (some ps) k = k ps := rfl

/-- The table fits the region. -/
def chkK (b : Bool) (s : St) (k : St → Option RR) : Option RR := if b then k s else none

theorem chkK_of {b : Bool} {s : St} {k : St → Option RR} (h : b = true) : chkK b s k = k s := by rw [h]; rfl

@[congr] theorem chkK_congr {b : Bool} {s : St} {k : St → Option RR} : chkK b s k = chkK b s k := rfl

theorem exec_draw {s : St} {id : Nat} {l : List Oper} : execL C P F (.code (.region id l.toArray true) :: k) s = gcK (gcAt C F id s) fun s => regK (drawnL C P F id l.toArray s) (fun s' => execL C P F k s') (fun v s' => unwL C P F (some (v, false)) s') := by
  rw [execL_draw]
  cases gcAt C F id s with
  | none => rfl
  | some s =>
    simp only [gcK_some]
    cases drawnL C P F id l.toArray s with
    | none => rfl
    | some r => cases r <;> rfl

theorem drawn_go {id : Nat} {l : List Oper} : drawnL C P F id l.toArray ⟨e, df, H, pn⟩ = planK (C.plan F.fn id) fun ps => phK (phantoms C l) fun ph =>
    chkK (planOk P l.toArray ps) ⟨e, df, H ++ ph, pn⟩ fun s => dopsL C P F l ps 0 l H.length s [] [] := by
  rw [drawnL_eq]
  simp only [List.toList_toArray]
  cases C.plan F.fn id with
  | none => rfl
  | some ps =>
    simp only [planK_some]
    cases phantoms C l with
    | none => rfl
    | some ph => simp [phK_some, chkK]

def ldsK (o : Option Lds) (k : Lds → Option RR) : Option RR :=
  match o with
  | some x => k x
  | none => none

@[congr] theorem ldsK_congr {o o' : Option Lds} {k : Lds → Option RR} (h : o = o') : ldsK o k = ldsK o' k := by rw [h]
theorem ldsK_some {x : Lds} {k : Lds → Option RR} : ldsK (some x) k = k x := rfl

noncomputable def afterD (C : Cfg) (P : Program) (F : FI) (all : List Oper) (ps : List (Nat × Nat)) (i : Nat) (r : List Oper) (l l' : Nat) (op : Op) (d : Option Tmp) (e : Env) (df : List ADefer) (H : Heap) (pn : Option (AV × Bool)) (lds : Lds) (efs : Efs) : OpR → Option RR
  | .val v H' => if isEff op then dopsL C P F all ps (i + 1) r l' ⟨e.put d v, df, H', pn⟩ lds ((i, (H, H')) :: efs)
      else dopsL C P F all ps (i + 1) r l' ⟨e.put d v, df, H, pn⟩ (addLd i (readOf C e op) lds) efs
  | .call f a c => callK (callVL C P F.base false f a c H none) (fun v H' => dopsL C P F all ps (i + 1) r l' ⟨e.put d v, df, H', pn⟩ lds ((i, (H, H')) :: efs))
      (fun v H' => ldsK (dpan C P F all ps i H (i + 1) r l' (e.put d .undef) lds) fun lds' => if ps.all (pairOk lds' efs) then some (.pan v ⟨panEnv ps i all e, df, H', pn⟩) else none)
  | _ => none

theorem dopsL_op {op : Op} {ps : List (Nat × Nat)} {i l : Nat} {lds : Lds} {efs : Efs} : dopsL C P F all ps i (⟨d, op, t, p, a, none⟩ :: r) l ⟨e, df, H, pn⟩ lds efs =
    stepV (evOpD C P F H e ⟨d, op, t, p, a, none⟩ l) (afterD C P F all ps i r l (if isAlloc op then l + 1 else l) op d e df H pn lds efs) := by
  rw [dopsL_cons]
  simp only [wantedA, nextL]
  cases evOpD C P F H e ⟨d, op, t, p, a, none⟩ l with
  | none => rfl
  | some x =>
    cases x with
    | call f a c =>
      simp only [stepV_some, afterD]
      cases callVL C P F.base false f a c H none with
      | none => rfl
      | some y =>
        obtain ⟨o, _, _⟩ := y
        cases o with
        | ret v => rfl
        | pan v =>
          simp only [callK_pan]
          cases dpan C P F all ps i H (i + 1) r (if isAlloc op = true then l + 1 else l) (e.put d .undef) lds <;> rfl
    | _ => rfl

def dvK (o : Option OpR) (k : AV → Option Lds) : Option Lds :=
  match o with
  | some (.val v _) => k v
  | _ => none

@[congr] theorem dvK_congr {o o' : Option OpR} {k : AV → Option Lds} (h : o = o') : dvK o k = dvK o' k := by rw [h]
theorem dvK_val {v : AV} {H' : Heap} {k : AV → Option Lds} : dvK (some (.val v H')) k = k v := rfl

def guardP (v : AV) (w : Bool) (e : Env) (run skip : Env → Option Lds) : Option Lds :=
  match v with
  | .bool b => if b = w then run e else skip e
  | .tup _ => skip e
  | _ => none

@[congr] theorem guardP_congr {v v' : AV} {w : Bool} {e : Env} {a b : Env → Option Lds} (h : v = v') : guardP v w e a b = guardP v' w e a b := by rw [h]
theorem guardP_tt {a b : Env → Option Lds} : guardP (.bool true) true e a b = a e := rfl
theorem guardP_ff {a b : Env → Option Lds} : guardP (.bool false) false e a b = a e := rfl
theorem guardP_tf {a b : Env → Option Lds} : guardP (.bool true) false e a b = b e := rfl
theorem guardP_ft {a b : Env → Option Lds} : guardP (.bool false) true e a b = b e := rfl
theorem guardP_tup {l : List AV} {w : Bool} {a b : Env → Option Lds} : guardP (.tup l) w e a b = b e := rfl

theorem dpan_nil {ps : List (Nat × Nat)} {i j l : Nat} {lds : Lds} : dpan C P F all ps i H j [] l e lds = some lds := rfl

theorem dpan_op {op : Op} {ps : List (Nat × Nat)} {i j l : Nat} {lds : Lds} : dpan C P F all ps i H j (⟨d, op, t, p, a, none⟩ :: r) l e lds =
    if hasPr ps j (1000 + i) then dpan C P F all ps i H (j + 1) r (if isAlloc op then l + 1 else l) (e.put d .undef) lds
    else if isEff op then none
    else dvK (evOpD C P F H e ⟨d, op, t, p, a, none⟩ l) fun v => dpan C P F all ps i H (j + 1) r (if isAlloc op then l + 1 else l) (e.put d v) (addLd j (readOf C e op) lds) := by
  simp only [dpan, nextL, wantedA]
  split
  · rfl
  · split
    · rfl
    · cases evOpD C P F H e ⟨d, op, t, p, a, none⟩ l with
      | none => rfl
      | some x => cases x <;> rfl

theorem dpan_guard {op : Op} {k : Nat} {w : Bool} {ps : List (Nat × Nat)} {i j l : Nat} {lds : Lds} : dpan C P F all ps i H j (⟨d, op, t, p, a, some (k, w)⟩ :: r) l e lds =
    if hasPr ps j (1000 + i) then dpan C P F all ps i H (j + 1) r (if isAlloc op then l + 1 else l) (e.put d .undef) lds
    else if isEff op then none
    else guardP (e.getO (dstAt all k)) w e (fun e => dpan C P F all ps i H j (⟨d, op, t, p, a, none⟩ :: r) l e lds) (fun e => dpan C P F all ps i H (j + 1) r (if isAlloc op then l + 1 else l) (e.put d (.tup [])) lds) := by
  have hev : evOpD C P F H e ⟨d, op, t, p, a, some (k, w)⟩ l = evOpD C P F H e ⟨d, op, t, p, a, none⟩ l := rfl
  rw [dstAt_eq]
  by_cases h1 : hasPr ps j (1000 + i) = true
  · simp only [dpan, nextL, h1, if_true]
  · by_cases h2 : isEff op = true
    · simp only [dpan, nextL, h1, h2, if_true, if_false]
    · simp only [dpan, nextL, h1, h2, if_false, wantedA]
      cases (all[k]?).bind (·.dst) with
      | none => rfl
      | some q =>
        simp only [Env.getO]
        cases e.get q with
        | bool b =>
          cases hb : b == w with
          | false =>
            have hn : ¬ b = w := by simpa using hb
            simp only [guardP, if_neg hn, hb, Bool.false_eq_true, if_false]
          | true =>
            have hn : b = w := by simpa using hb
            simp only [guardP, if_pos hn, hb, hev, Bool.false_eq_true, if_false]
        | _ => simp only [Bool.false_eq_true, if_false, guardP]

theorem dopsL_guard {op : Op} {j : Nat} {w : Bool} {ps : List (Nat × Nat)} {i l : Nat} {lds : Lds} {efs : Efs} : dopsL C P F all ps i (⟨d, op, t, p, a, some (j, w)⟩ :: r) l ⟨e, df, H, pn⟩ lds efs =
    guardK (e.getO (dstAt all j)) w ⟨e, df, H, pn⟩ (fun s => dopsL C P F all ps i (⟨d, op, t, p, a, none⟩ :: r) l s lds efs) (fun s => dopsL C P F all ps (i + 1) r (if isAlloc op then l + 1 else l) ⟨s.env.put d (.tup []), s.dfr, s.H, s.pan⟩ lds efs) := by
  have hev : evOpD C P F H e ⟨d, op, t, p, a, some (j, w)⟩ l = evOpD C P F H e ⟨d, op, t, p, a, none⟩ l := rfl
  rw [dopsL_cons, dstAt_eq]
  simp only [wantedA, nextL]
  cases (all[j]?).bind (·.dst) with
  | none => rfl
  | some k =>
    simp only [Env.getO]
    cases e.get k with
    | bool b =>
      cases hb : b == w with
      | false =>
        have hn : ¬ b = w := by simpa using hb
        simp only [guardK, if_neg hn, hb]
      | true =>
        have hn : b = w := by simpa using hb
        simp only [guardK, if_pos hn, hb]
        rw [dopsL_cons]
        simp only [wantedA, hev, nextL]
    | _ => rfl

def pairM (e : Option (Heap × Heap)) (l : Option RD) : Bool :=
  match e with
  | none => true
  | some (a, b) => match l with
    | none => true
    | some l => sameAt a b l

theorem pairOk_eq {lds : Lds} {efs : Efs} {i j : Nat} : pairOk lds efs (i, j) = pairM (getAt efs j) (getAt lds i) := by
  simp only [pairOk, pairM]
  cases getAt lds i <;> cases getAt efs j <;> rfl
theorem pairM_none {l : Option RD} : pairM none l = true := rfl
theorem pairM_some {a b : Heap} {l : RD} : pairM (some (a, b)) (some l) = sameAt a b l := rfl
theorem pairM_non {a b : Heap} : pairM (some (a, b)) none = true := rfl

theorem phantoms_nil : phantoms C [] = some [] := rfl

def allocT : Op → Option TypeId
  | .alloc T => some T
  | _ => none

def allocM : Op → Option TypeId
  | .makeMap T none => some T
  | _ => none

def mapObj : TyD → Option AO
  | .map kt _ => some (.map kt [])
  | _ => none

def phM (o : Option AO) (r : Option Heap) : Option Heap :=
  match o, r with
  | some x, some H => some (x :: H)
  | _, _ => none

theorem phM_some {o : AO} {H : Heap} : phM (some o) (some H) = some (o :: H) := rfl
theorem mapObj_map {k v : TypeId} : mapObj (.map k v) = some (.map k []) := rfl

def phC (o : AO) (r : Option Heap) : Option Heap :=
  match r with
  | some H => some (o :: H)
  | none => none

theorem phC_some {o : AO} {H : Heap} : phC o (some H) = some (o :: H) := rfl

theorem phantoms_cons {op : Op} : phantoms C (⟨d, op, t, p, a, g⟩ :: r) = match allocT op with
    | some T => (match C.ty T with
      | some ty => if ty.zeroOk then phC (.box ty.zv) (phantoms C r) else none
      | none => none)
    | none => match allocM op with
      | some T => (match C.ty T with
        | some ty => phM (mapObj ty.d) (phantoms C r)
        | none => none)
      | none => phantoms C r := by
  cases op <;> first | rfl | skip
  case makeMap T m =>
    cases m with
    | some _ => rfl
    | none =>
      simp only [phantoms, allocT, allocM]
      cases C.ty T with
      | none => rfl
      | some ty =>
        obtain ⟨d, s, b, z⟩ := ty
        cases d <;> first | rfl | (simp only [mapObj]; cases phantoms C r <;> rfl)
  rename_i T
  simp only [phantoms, allocT]
  cases C.ty T with
  | none => rfl
  | some ty =>
    simp only
    split
    · cases phantoms C r <;> rfl
    · rfl

end

/-! ### Where a loop stands in a function -/

def firstReg : Code → Option Nat
  | .region id _ _ => some id
  | .seq a _ => firstReg a
  | .block _ c => firstReg c
  | .loop c => firstReg c
  | .scope c => firstReg c
  | _ => none

/-- What is still to be done when the loop whose first region is r begins a round. -/
def todoOf (r : Nat) : Code → List Item → Option (List Item)
  | .seq a b, k => match todoOf r a (.code b :: k) with
    | some x => some x
    | none => todoOf r b k
  | .cond _ a b, k => match todoOf r a k with
    | some x => some x
    | none => todoOf r b k
  | .block id c, k => todoOf r c (.inBlock id :: k)
  | .scope c, k => todoOf r c (.inScope c :: k)
  | .loop c, k => if firstReg c = some r then some (.inLoop c :: k) else todoOf r c (.inLoop c :: k)
  | .rangeFunc _ _ _ b, _ => todoOf r b []
  | _, _ => none

def todoAt (f : Func) (r : Nat) : List Item :=
  match f.body with
  | some c => match todoOf r c [] with
    | some x => x
    | none => []
  | none => []

/-- The loop itself. -/
def loopIt (f : Func) (r : Nat) : Item :=
  match todoAt f r with
  | it :: _ => it
  | [] => .code .skip

/-- What is still to be done when that loop has come to its end. -/
def todoPast (f : Func) (r : Nat) : List Item :=
  match todoAt f r with
  | _ :: .inBlock _ :: k => k
  | _ => []


/-! ### Ranges over functions -/

section
variable {C : Cfg} {P : Program} {k : List Item} {H : Heap} {e : Env} {df : List ADefer} {pn : Option (AV × Bool)} {fn : FuncId} {dfd : Bool} {b l : Nat}

theorem exec_rng {f : Operand} {ps : Array Tmp} {x y : Code} : execL C P ⟨fn, none, dfd, b⟩ (.code (.rangeFunc f ps x y) :: k) ⟨e, df, H, pn⟩ = funcK (opd C e f) fun g first cap =>
    doneK (callVL C P b false g (first ++ [.func (.yield (H.length + 1)) [] []]) cap (H ++ [.dfr, .loop ⟨.ready, none, fn, e, ps, x, y, H.length⟩]) none) fun d =>
      endLoopL C P ⟨fn, none, dfd, b⟩ k (H.length + 1) ⟨e, .collected H.length :: df, H, pn⟩ d := exec_range rfl

theorem exec_rng' {f : Operand} {ps : Array Tmp} {x y : Code} {l0 : Nat} : execL C P ⟨fn, some l0, dfd, b⟩ (.code (.rangeFunc f ps x y) :: k) ⟨e, df, H, pn⟩ = funcK (opd C e f) fun g first cap =>
    loopK H[l0]? fun r0 => doneK (callVL C P b false g (first ++ [.func (.yield H.length) [] []]) cap (H ++ [.loop ⟨.ready, none, fn, e, ps, x, y, r0.dfr⟩]) none) fun d =>
      endLoopL C P ⟨fn, some l0, dfd, b⟩ k H.length ⟨e, df, H, pn⟩ d := exec_range' rfl

theorem exec_begin : execL C P ⟨fn, some l, dfd, b⟩ (.beginRound :: k) ⟨e, df, H, pn⟩ = loopK H[l]? fun r => if r.state = .ready then execL C P ⟨fn, some l, dfd, b⟩ k ⟨e, df, H.set l (.loop { r with state := .busy }), pn⟩ else none := exec_beginRound rfl

theorem endL_ret {F : FI} {L : Nat} {s : St} {v : AV} {H' : Heap} {q : Option (AV × Bool)} : endLoopL C P F k L s ⟨.ret v, H', q⟩ = loopK H'[L]? fun r => if r.state = .busy then none else
    execL C P F ((r.pending.map Item.code).toList ++ k) ⟨s.env, s.dfr, H'.set L (.loop { r with state := .exhausted }), s.pan⟩ := by
  rw [endLoopL_eq]
  simp only
  cases H'[L]? with
  | none => rfl
  | some o => cases o <;> rfl

theorem endL_pan {F : FI} {L : Nat} {s : St} {v : AV} {H' : Heap} {q : Option (AV × Bool)} : endLoopL C P F k L s ⟨.pan v, H', q⟩ = unwL C P F (some (v, false)) ⟨s.env, s.dfr, H', s.pan⟩ := by
  rw [endLoopL_eq]

theorem leave_round {j : Option Code} : leaveL C P ⟨fn, some l, dfd, b⟩ j ⟨e, df, H, pn⟩ = endRound l j ⟨e, df, H, pn⟩ := by
  rw [leaveL_eq]

theorem leave_none : leaveL C P ⟨fn, none, dfd, b⟩ none ⟨e, df, H, pn⟩ = unwL C P ⟨fn, none, dfd, b⟩ none ⟨e, df, H, pn⟩ := by
  rw [leaveL_eq]

theorem leave_ret : leaveL C P ⟨fn, none, dfd, b⟩ (some .ret) ⟨e, df, H, pn⟩ = unwL C P ⟨fn, none, dfd, b⟩ none ⟨e, df, H, pn⟩ := by
  rw [leaveL_eq]
end

/-- The ranges over functions that stand in a code. -/
def rangesOf : Code → List (Array Tmp × Code × Code)
  | .seq a b => rangesOf a ++ rangesOf b
  | .cond _ a b => rangesOf a ++ rangesOf b
  | .block _ c => rangesOf c
  | .scope c => rangesOf c
  | .loop c => rangesOf c
  | .rangeFunc _ ps a b => [(ps, a, b)]
  | _ => []

/-- The record of the i-th range over a function. -/
def loopRec (f : Func) (id : FuncId) (i : Nat) (e : Env) (d : Nat) : ALoop :=
  match f.body with
  | some c => match (rangesOf c)[i]? with
    | some (ps, a, b) => ⟨.ready, none, id, e, ps, a, b, d⟩
    | none => ⟨.ready, none, id, e, #[], .skip, .skip, d⟩
  | none => ⟨.ready, none, id, e, #[], .skip, .skip, d⟩

/-- How many rounds are gone through, from the j-th on, of m at most. -/
def stopAt (c : Nat → Bool) : Nat → Nat → Nat
  | j, 0 => j
  | j, m + 1 => if c j then stopAt c (j + 1) m else j + 1

theorem lt_irr (n : Nat) : (n < n) = False := by simp
theorem lt_add_f (n k : Nat) : (n + k < n) = False := by simp

theorem fnLt_func {N : Nat} {f : FuncId} : fnLt N (.func f) = true := rfl
theorem fnLt_method {N : Nat} {n : String} : fnLt N (.method n) = true := rfl
theorem fnLt_methodOf {N : Nat} {t : TypeId} {n : String} : fnLt N (.methodOf t n) = true := rfl
theorem fnLt_yield {N l : Nat} : fnLt N (.yield l) = decide (l < N) := rfl


/-! ### What an operation reads -/

section
variable {C : Cfg} {e : Env}

def gslOf : AV → Option RD
  | .gsl l _ => some (.obj l)
  | _ => none

def ptrOf : AV → Option RD
  | .ptr l _ => some (.obj l)
  | .eptr l _ _ _ => some (.obj l)
  | _ => none

def ptrO : AV → Option RD
  | .ptr l _ => some (.obj l)
  | _ => none

theorem ptrO_ptr {l o : Nat} : ptrO (.ptr l o) = some (.obj l) := rfl

def mapOf (C : Cfg) (t : TypeId) (k : AV) (b : Bool) : AV → Option RD
  | .map l => some (if b then .obj l else keyOf C t l k)
  | _ => none

/-- A lookup's key, of a map whose types are known. -/
def keyT (C : Cfg) (l : Nat) (k : AV) : Option Ty → RD
  | some ⟨.map _ et, _, _, _⟩ => match C.ty et with
    | some te => if te.zeroOk then .key l k te.zv else .obj l
    | none => .obj l
  | _ => .obj l
theorem keyOf_eq {C : Cfg} {t : TypeId} {l : Nat} {k : AV} : keyOf C t l k = keyT C l k (C.ty t) := by
  simp only [keyOf]
  cases C.ty t with
  | none => rfl
  | some y => obtain ⟨d, s, b, z⟩ := y; cases d <;> rfl
theorem keyT_map {C : Cfg} {l : Nat} {k : AV} {a et : TypeId} {s b : Nat} {z : Option Value} : keyT C l k (some ⟨.map a et, s, b, z⟩) = match C.ty et with
    | some te => if te.zeroOk then .key l k te.zv else .obj l
    | none => .obj l := rfl
theorem gslOf_sl {f : Bool} {es : List AV} : gslOf (.sl f es) = none := rfl
theorem gslOf_ptr {a b : Nat} : gslOf (.ptr a b) = none := rfl
theorem gslOf_gsl {l n : Nat} : gslOf (.gsl l n) = some (.obj l) := rfl
theorem ptrOf_ptr {l o : Nat} : ptrOf (.ptr l o) = some (.obj l) := rfl
theorem ptrOf_eptr {l n i o : Nat} : ptrOf (.eptr l n i o) = some (.obj l) := rfl
theorem ptrOf_vptr {x : AV} {o : Nat} : ptrOf (.vptr x o) = none := rfl
theorem mapOf_map {C : Cfg} {t : TypeId} {k : AV} {b : Bool} {l : Nat} : mapOf C t k b (.map l) = some (if b then .obj l else keyOf C t l k) := rfl

theorem readOf_load {T : TypeId} {x : Operand} : readOf C e (.load T x) = ptrOf (opd C e x) := by
  simp only [readOf, ptrOf]; cases opd C e x <;> rfl
theorem readOf_lookup {T : TypeId} {m x : Operand} {b : Bool} : readOf C e (.lookup T m x b) = mapOf C T (opd C e x) b (opd C e m) := by
  simp only [readOf, mapOf]; cases opd C e m <;> rfl
theorem readOf_indexAddr {T : TypeId} {x i : Operand} : readOf C e (.indexAddr T x i) = gslOf (opd C e x) := by
  simp only [readOf, gslOf]; cases opd C e x <;> rfl
theorem readOf_fieldAddr {T : TypeId} {x : Operand} {i : Nat} : readOf C e (.fieldAddr T x i) = match C.ty T with
    | some ⟨.struct fs, _, _, _⟩ => match fs[i]? with
      | some (_, ft) => match C.ty ft with
        | some fy => if fy.size = 0 then ptrO (opd C e x) else none
        | none => none
      | none => none
    | _ => none := by
  simp only [readOf]
  split
  · split
    · split
      · split
        · cases opd C e x <;> simp_all [ptrO]
        · simp_all
      · simp_all
    · simp_all
  · simp_all

theorem readOf_move {x : Operand} : readOf C e (.move x) = none := rfl
theorem readOf_assign {x : Operand} : readOf C e (.assign x) = none := rfl
theorem readOf_pick {x y z : Operand} : readOf C e (.pick x y z) = none := rfl
theorem readOf_alloc {T : TypeId} : readOf C e (.alloc T) = none := rfl
theorem readOf_build {T : TypeId} {ps : Array (Nat × Operand)} : readOf C e (.build T ps) = none := rfl
theorem readOf_buildSlice {T : TypeId} {n : Nat} {ps : Array (Nat × Operand)} : readOf C e (.buildSlice T n ps) = none := rfl
theorem readOf_nilCheck {x : Operand} : readOf C e (.nilCheck x) = none := rfl
theorem readOf_bin {o : BinOp} {T T2 : TypeId} {x y : Operand} : readOf C e (.binOp o T x y T2) = none := rfl
theorem readOf_un {o : UnOp} {T : TypeId} {x : Operand} : readOf C e (.unOp o T x) = none := rfl
theorem readOf_convert {T T2 : TypeId} {x : Operand} : readOf C e (.convert T T2 x) = none := rfl
theorem readOf_makeInterface {T : TypeId} {x : Operand} : readOf C e (.makeInterface T x) = none := rfl
theorem readOf_makeFunc {f : Fn} {x y : Array Operand} : readOf C e (.makeFunc f x y) = none := rfl
theorem readOf_slice {T : TypeId} {x : Operand} {l h m : Option Operand} : readOf C e (.slice T x l h m) = none := rfl
theorem readOf_field {T : TypeId} {x : Operand} {i : Nat} : readOf C e (.field T x i) = none := rfl
theorem readOf_index {T : TypeId} {x i : Operand} : readOf C e (.index T x i) = none := rfl
theorem readOf_typeAssert {x : Operand} {S T : TypeId} {b : Bool} : readOf C e (.typeAssert x S T b) = none := rfl
theorem readOf_extract {x : Operand} {i : Nat} : readOf C e (.extract x i) = none := rfl
theorem readOf_call {c : Call} : readOf C e (.call c) = none := rfl

/-- The object of a slice, if it has one. -/
theorem SlOk.obj {H : Heap} {sz : Nat} {v : AV} {xs : List AV} (h : SlOk H sz v xs) : gslOf v = none ∨ ∃ l, gslOf v = some (.obj l) ∧ l < H.length ∧ H[l]? = some (.grow sz xs) := by
  obtain ⟨h1, _⟩ := h
  cases v <;> simp only at h1
  · exact .inl rfl
  · exact .inr ⟨_, rfl, (List.getElem?_eq_some_iff.1 h1.1).1, h1.1⟩
end

theorem le_maxA (n : Nat) : (n ≤ maxLenA) = (n ≤ 1048576) := propext ⟨fun h => h, fun h => h⟩
theorem le_maxAI (n : Int) : (n ≤ ((maxLenA : Nat) : Int)) = (n ≤ 1048576) := propext ⟨fun h => h, fun h => h⟩

/-! The base list of a symbolic run. -/
@[congr] theorem ownK_congr {t t' : Bool} {x y : Option Done} (h : t = t') : ownK t x y = ownK t' x y := by rw [h]
theorem ownK_t {x y : Option Done} : ownK true x y = x := rfl
theorem ownK_f {x y : Option Done} : ownK false x y = y := rfl
attribute [go_sem] execL_nil execL_seq exec_region execL_ret execL_skip execL_inBlock execL_inScope execL_label execL_block execL_loop execL_scope exec_cond exec_exit exec_goto condK_t condK_f jumpK_some jumpK_none gcK_some regK_ok regK_pan opsL_op opsL_guard opsL_nil stepV_some callK_ret callK_pan guardK_tt guardK_ff guardK_tf guardK_ft guardK_tup doneK_some exec_draw drawn_go planK_some phK_some dopsL_op dopsL_guard dopsL_nil ldsK_some dvK_val guardP_tt guardP_ff guardP_tf guardP_ft guardP_tup dpan_nil dpan_op dpan_guard Option.some_beq_some Bool.or_self List.filter_cons List.filter_nil phantoms_nil phantoms_cons phM_some mapObj_map phC_some ptrO_ptr gslOf_sl gslOf_gsl gslOf_ptr opdP_mk partOk_mk ptrOf_ptr ptrOf_eptr ptrOf_vptr mapOf_map readOf_load readOf_lookup readOf_indexAddr readOf_fieldAddr readOf_move readOf_assign readOf_pick readOf_alloc readOf_build readOf_buildSlice readOf_nilCheck readOf_bin readOf_un readOf_convert readOf_makeInterface readOf_makeFunc readOf_slice readOf_field readOf_index readOf_typeAssert readOf_extract readOf_call List.all_nil List.all_cons pairOk_eq pairM_none pairM_some pairM_non AV.same_refl sameL_refl ev_move ev_assign ev_bin ev_un ev_pick ev_alloc ev_box ev_build ev_buildSlice ev_load ev_store growA_tmp ev_nilCheck ev_convert ev_makeInterface ev_makeFunc ev_makeMap ev_makeSlice ev_slice ev_fieldAddr ev_field ev_indexAddr ev_index ev_lookup ev_mapUpdate ev_typeAssert ev_extract ev_call ev_defer ev_panic evLen_sl evLen_gsl evNilS Bool.false_eq_true Bool.true_eq_false Bool.not_true Bool.not_false Bool.and_true Bool.true_and Bool.and_false Bool.false_and Bool.or_true Bool.or_false Option.getD_some Option.getD_none Option.map_some Option.map_none Option.isNone_none List.getElem?_cons_zero List.getElem?_cons_succ List.map_cons List.map_nil List.cons_append List.nil_append List.append_nil List.append_assoc List.length_cons List.length_nil List.length_append exec_rng exec_rng' exec_begin endL_ret endL_pan leave_round leave_none leave_ret funcK_func loopK_loop callV_yield unwL_collected List.size_toArray List.toList_toArray Option.toList_none Option.toList_some Option.isNone_some unwL_nil unw_fn callVL_func ownK_t ownK_f callVL_method get_at get_at' set_at set_at' List.set_cons_zero List.set_cons_succ evLoad_ptr evLoad_vptr evLoad_eptr evStore_ptr evStore_eptr cells_int cells_bool cells_nilp cells_ptr cells_eptr cells_vptr cells_sl cells_gsl cells_wsl cells_map cells_nilmap cells_func cells_nilFunc cells_iface cells_nilIface cells_agg scalar_int scalar_bool scalar_nilp scalar_ptr scalar_eptr scalar_vptr scalar_sl scalar_gsl scalar_map scalar_nilmap scalar_func scalar_nilFunc scalar_iface scalar_nilIface scalar_agg stored_int stored_bool stored_nilp stored_ptr stored_eptr stored_vptr stored_sl stored_gsl stored_map stored_nilmap stored_func stored_nilFunc stored_iface stored_nilIface stored_agg withCells_agg withCells_int withCells_bool withCells_ptr withCells_nilp withCells_sl withCells_gsl withCells_func withCells_nilFunc withCells_map withCells_nilmap withCells_iface withCells_nilIface addOff_ptr addOff_eptr addOff_vptr elems_sl elems_gsl le_maxA le_maxAI List.set_set get_atS get_atS' set_atS set_atS' take_atS drop_atS drop_S beq_self_eq_true bne_self_eq_false decide_true decide_false Nat.add_zero Nat.zero_add Nat.add_assoc List.take_succ_cons List.take_zero List.drop_succ_cons List.drop_zero List.take_nil List.drop_nil Nat.le_refl decide_eq_true_eq List.take_left List.take_length and_self List.isEmpty_nil List.isEmpty_cons Bool.true_or Bool.false_or take_set take_setB List.take_length_add_append Nat.lt_add_right_iff_pos Nat.add_lt_add_iff_left List.drop_left List.drop_length List.replicate_succ List.replicate_zero Int.cast_ofNat_Int gt_iff_lt ge_iff_le lt_irr lt_add_f fnLt_func fnLt_method fnLt_methodOf fnLt_yield
attribute [go_sem] gcAt.eq_1 afterOp.eq_1 afterOp.eq_2 afterOp.eq_3 afterOp.eq_4 dstAt.eq_1 dstAt.eq_2 dstAt.eq_3 Env.getO.eq_1 Env.getO.eq_2 afterD.eq_1 afterD.eq_2 hasPr.eq_1 hasPr.eq_2 panEnv.eq_1 badT.eq_1 badT.eq_2 evOpD.eq_1 allocT.eq_1 allocM.eq_1 isAlloc.eq_1 isAlloc.eq_2 isEff.eq_1 isEff.eq_2 isEff.eq_3 isEff.eq_4 isEff.eq_5 isEff.eq_6 isEff.eq_7 isEff.eq_8 isEff.eq_9 isEff.eq_10 isEff.eq_11 isEff.eq_12 isEff.eq_13 isEff.eq_14 isEff.eq_15 addLd.eq_1 addLd.eq_2 getAt.eq_1 getAt.eq_2 sameAt.eq_1 sameAt.eq_2 keyOf_eq keyT_map AO.same.eq_1 AO.same.eq_2 AO.same.eq_3 evCallee.eq_1 evBuiltin.eq_3 evBuiltin.eq_4 evBuiltin.eq_6 evBuiltin.eq_7 evBuiltin.eq_9 evBuiltin.eq_11 evBuiltin.eq_13 evBuiltin.eq_15 evUn.eq_1 evUn.eq_2 evUn.eq_3 evBin.eq_1 evBin.eq_2 evBin.eq_3 evBin.eq_4 evBin.eq_5 evBin.eq_6 evBin.eq_7 evBin.eq_8 evBin.eq_9 evBin.eq_10 evBin.eq_11 evBin.eq_12 evBin.eq_13 evBin.eq_15 evBin.eq_16 evBin.eq_18 evBin.eq_19 isConst.eq_1 mapV.eq_1 mapV.eq_2 mapH.eq_1 mapH.eq_2 opd.eq_1 opd.eq_2 opd.eq_3 opd.eq_4 Env.get.eq_1 Env.get.eq_2 Env.put.eq_1 Env.put.eq_2 Env.ofArgs.eq_1 Env.ofArgs.eq_2 ofConst.eq_1 ofScalar.eq_1 ofScalar.eq_2 ofScalar.eq_3 ofScalar.eq_4 ofScalar.eq_5 ofScalar.eq_6 ofScalar.eq_7 endRound.eq_1 Env.params.eq_1 readRes.eq_1 readRes.eq_2 readRes.eq_3 packRes.eq_1 storeObj.eq_1 readPart.eq_1 writePart.eq_1 splice.eq_1 AV.lt.eq_1 AV.lt.eq_2 AV.lt.eq_3 AV.lt.eq_4 AV.lt.eq_5 AV.lt.eq_6 AV.lt.eq_7 AV.lt.eq_8 AV.lt.eq_9 ltL.eq_1 ltL.eq_2 AO.lt.eq_1 AO.lt.eq_2 AO.lt.eq_3 AO.lt.eq_4 AO.lt.eq_5 mapLt.eq_1 mapLt.eq_2 allScalar.eq_1 allScalar.eq_2 elemOk.eq_1 elemsOk.eq_1 elemsOk.eq_2 Ty.agg.eq_1 Ty.zeroOk.eq_1 Ty.zv.eq_1 fillA.eq_1 fillA.eq_2 fieldPlaces.eq_1 fieldPlaces.eq_2 fieldPlaces.eq_3 setParts.eq_1 setParts.eq_2 sliceElem.eq_1 sliceElem.eq_2 eqFit.eq_1 fits.eq_1 fits.eq_2 fits.eq_3 isNilSl.eq_1 evAppend.eq_1 noYield.eq_1 Go.exitTo.eq_1 Go.exitTo.eq_3 finishC.eq_1 sealT.eq_1 sealV.eq_1 sealG.eq_1

/-! Equations without conditions -/
theorem sealG_int {H : Heap} {N : Nat} {k : IntKind} {n : Int} : sealG H N (.int k n) = (.int k n) := rfl
theorem sealV_int {H : Heap} {N : Nat} {k : IntKind} {n : Int} : sealV H N (.int k n) = sealG H N (.int k n) := rfl
theorem sealT_int {H : Heap} {N : Nat} {k : IntKind} {n : Int} : sealT H N (.int k n) = sealV H N (.int k n) := rfl
theorem elemOk_int {sz : Nat} {a : Bool} {k : IntKind} {n : Int} : elemOk sz a (.int k n) = (!a && (sz == 1 && AV.scalar (.int k n))) := rfl
theorem isNilSl_int {k : IntKind} {n : Int} : isNilSl (.int k n) = false := rfl
theorem lt_int {N : Nat} {k : IntKind} {n : Int} : AV.lt N (.int k n) = true := rfl
theorem sealG_bool {H : Heap} {N : Nat} {b : Bool} : sealG H N (.bool b) = (.bool b) := rfl
theorem sealV_bool {H : Heap} {N : Nat} {b : Bool} : sealV H N (.bool b) = sealG H N (.bool b) := rfl
theorem sealT_bool {H : Heap} {N : Nat} {b : Bool} : sealT H N (.bool b) = sealV H N (.bool b) := rfl
theorem elemOk_bool {sz : Nat} {a : Bool} {b : Bool} : elemOk sz a (.bool b) = (!a && (sz == 1 && AV.scalar (.bool b))) := rfl
theorem isNilSl_bool {b : Bool} : isNilSl (.bool b) = false := rfl
theorem lt_bool {N : Nat} {b : Bool} : AV.lt N (.bool b) = true := rfl
theorem sealG_nilp {H : Heap} {N : Nat}  : sealG H N (.nilp) = (.nilp) := rfl
theorem sealV_nilp {H : Heap} {N : Nat}  : sealV H N (.nilp) = sealG H N (.nilp) := rfl
theorem sealT_nilp {H : Heap} {N : Nat}  : sealT H N (.nilp) = sealV H N (.nilp) := rfl
theorem elemOk_nilp {sz : Nat} {a : Bool}  : elemOk sz a (.nilp) = (!a && (sz == 1 && AV.scalar (.nilp))) := rfl
theorem isNilSl_nilp  : isNilSl (.nilp) = false := rfl
theorem lt_nilp {N : Nat}  : AV.lt N (.nilp) = true := rfl
theorem evBin_nilp {op : BinOp} {q : Bool}  {w : AV} : evBin op q (.nilp) w = none := by cases w <;> rfl
theorem sealG_ptr {H : Heap} {N : Nat} {l o : Nat} : sealG H N (.ptr l o) = (.ptr l o) := rfl
theorem sealV_ptr {H : Heap} {N : Nat} {l o : Nat} : sealV H N (.ptr l o) = sealG H N (.ptr l o) := rfl
theorem sealT_ptr {H : Heap} {N : Nat} {l o : Nat} : sealT H N (.ptr l o) = sealV H N (.ptr l o) := rfl
theorem elemOk_ptr {sz : Nat} {a : Bool} {l o : Nat} : elemOk sz a (.ptr l o) = (!a && (sz == 1 && AV.scalar (.ptr l o))) := rfl
theorem isNilSl_ptr {l o : Nat} : isNilSl (.ptr l o) = false := rfl
theorem evBin_ptr {op : BinOp} {q : Bool} {l o : Nat} {w : AV} : evBin op q (.ptr l o) w = none := by cases w <;> rfl
theorem sealG_eptr {H : Heap} {N : Nat} {l n i o : Nat} : sealG H N (.eptr l n i o) = (.eptr l n i o) := rfl
theorem sealV_eptr {H : Heap} {N : Nat} {l n i o : Nat} : sealV H N (.eptr l n i o) = sealG H N (.eptr l n i o) := rfl
theorem sealT_eptr {H : Heap} {N : Nat} {l n i o : Nat} : sealT H N (.eptr l n i o) = sealV H N (.eptr l n i o) := rfl
theorem elemOk_eptr {sz : Nat} {a : Bool} {l n i o : Nat} : elemOk sz a (.eptr l n i o) = (!a && (sz == 1 && AV.scalar (.eptr l n i o))) := rfl
theorem isNilSl_eptr {l n i o : Nat} : isNilSl (.eptr l n i o) = false := rfl
theorem sealG_vptr {H : Heap} {N : Nat} {x : AV} {o : Nat} : sealG H N (.vptr x o) = (.vptr x o) := rfl
theorem sealV_vptr {H : Heap} {N : Nat} {x : AV} {o : Nat} : sealV H N (.vptr x o) = sealG H N (.vptr x o) := rfl
theorem sealT_vptr {H : Heap} {N : Nat} {x : AV} {o : Nat} : sealT H N (.vptr x o) = sealV H N (.vptr x o) := rfl
theorem elemOk_vptr {sz : Nat} {a : Bool} {x : AV} {o : Nat} : elemOk sz a (.vptr x o) = (!a && (sz == 1 && AV.scalar (.vptr x o))) := rfl
theorem isNilSl_vptr {x : AV} {o : Nat} : isNilSl (.vptr x o) = false := rfl
theorem lt_vptr {N : Nat} {x : AV} {o : Nat} : AV.lt N (.vptr x o) = true := rfl
theorem sealG_sl {H : Heap} {N : Nat} {f : Bool} {es : List AV} : sealG H N (.sl f es) = (.sl f es) := rfl
theorem sealV_sl {H : Heap} {N : Nat} {f : Bool} {es : List AV} : sealV H N (.sl f es) = sealG H N (.sl f es) := rfl
theorem sealT_sl {H : Heap} {N : Nat} {f : Bool} {es : List AV} : sealT H N (.sl f es) = sealV H N (.sl f es) := rfl
theorem elemOk_sl {sz : Nat} {a : Bool} {f : Bool} {es : List AV} : elemOk sz a (.sl f es) = (!a && (sz == 1 && AV.scalar (.sl f es))) := rfl
theorem lt_sl {N : Nat} {f : Bool} {es : List AV} : AV.lt N (.sl f es) = true := rfl
theorem sealV_gsl {H : Heap} {N : Nat} {l n : Nat} : sealV H N (.gsl l n) = sealG H N (.gsl l n) := rfl
theorem sealT_gsl {H : Heap} {N : Nat} {l n : Nat} : sealT H N (.gsl l n) = sealV H N (.gsl l n) := rfl
theorem elemOk_gsl {sz : Nat} {a : Bool} {l n : Nat} : elemOk sz a (.gsl l n) = (!a && (sz == 1 && AV.scalar (.gsl l n))) := rfl
theorem isNilSl_gsl {l n : Nat} : isNilSl (.gsl l n) = false := rfl
theorem sealG_map {H : Heap} {N : Nat} {l : Nat} : sealG H N (.map l) = (.map l) := rfl
theorem sealV_map {H : Heap} {N : Nat} {l : Nat} : sealV H N (.map l) = sealG H N (.map l) := rfl
theorem sealT_map {H : Heap} {N : Nat} {l : Nat} : sealT H N (.map l) = sealV H N (.map l) := rfl
theorem elemOk_map {sz : Nat} {a : Bool} {l : Nat} : elemOk sz a (.map l) = (!a && (sz == 1 && AV.scalar (.map l))) := rfl
theorem isNilSl_map {l : Nat} : isNilSl (.map l) = false := rfl
theorem evBin_map {op : BinOp} {q : Bool} {l : Nat} {w : AV} : evBin op q (.map l) w = none := by cases w <;> rfl
theorem sealG_nilmap {H : Heap} {N : Nat}  : sealG H N (.nilmap) = (.nilmap) := rfl
theorem sealV_nilmap {H : Heap} {N : Nat}  : sealV H N (.nilmap) = sealG H N (.nilmap) := rfl
theorem sealT_nilmap {H : Heap} {N : Nat}  : sealT H N (.nilmap) = sealV H N (.nilmap) := rfl
theorem elemOk_nilmap {sz : Nat} {a : Bool}  : elemOk sz a (.nilmap) = (!a && (sz == 1 && AV.scalar (.nilmap))) := rfl
theorem isNilSl_nilmap  : isNilSl (.nilmap) = false := rfl
theorem lt_nilmap {N : Nat}  : AV.lt N (.nilmap) = true := rfl
theorem evBin_nilmap {op : BinOp} {q : Bool}  {w : AV} : evBin op q (.nilmap) w = none := by cases w <;> rfl
theorem sealG_func {H : Heap} {N : Nat} {fn : Fn} {x y : List AV} : sealG H N (.func fn x y) = (.func fn x y) := rfl
theorem sealV_func {H : Heap} {N : Nat} {fn : Fn} {x y : List AV} : sealV H N (.func fn x y) = sealG H N (.func fn x y) := rfl
theorem sealT_func {H : Heap} {N : Nat} {fn : Fn} {x y : List AV} : sealT H N (.func fn x y) = sealV H N (.func fn x y) := rfl
theorem elemOk_func {sz : Nat} {a : Bool} {fn : Fn} {x y : List AV} : elemOk sz a (.func fn x y) = (!a && (sz == 1 && AV.scalar (.func fn x y))) := rfl
theorem isNilSl_func {fn : Fn} {x y : List AV} : isNilSl (.func fn x y) = false := rfl
theorem evBin_func {op : BinOp} {q : Bool} {fn : Fn} {x y : List AV} {w : AV} : evBin op q (.func fn x y) w = none := by cases w <;> rfl
theorem sealG_nilFunc {H : Heap} {N : Nat}  : sealG H N (.nilFunc) = (.nilFunc) := rfl
theorem sealV_nilFunc {H : Heap} {N : Nat}  : sealV H N (.nilFunc) = sealG H N (.nilFunc) := rfl
theorem sealT_nilFunc {H : Heap} {N : Nat}  : sealT H N (.nilFunc) = sealV H N (.nilFunc) := rfl
theorem elemOk_nilFunc {sz : Nat} {a : Bool}  : elemOk sz a (.nilFunc) = (!a && (sz == 1 && AV.scalar (.nilFunc))) := rfl
theorem isNilSl_nilFunc  : isNilSl (.nilFunc) = false := rfl
theorem lt_nilFunc {N : Nat}  : AV.lt N (.nilFunc) = true := rfl
theorem evBin_nilFunc {op : BinOp} {q : Bool}  {w : AV} : evBin op q (.nilFunc) w = none := by cases w <;> rfl
theorem sealG_iface {H : Heap} {N : Nat} {t : TypeId} {x : AV} : sealG H N (.iface t x) = (.iface t x) := rfl
theorem sealV_iface {H : Heap} {N : Nat} {t : TypeId} {x : AV} : sealV H N (.iface t x) = sealG H N (.iface t x) := rfl
theorem sealT_iface {H : Heap} {N : Nat} {t : TypeId} {x : AV} : sealT H N (.iface t x) = sealV H N (.iface t x) := rfl
theorem elemOk_iface {sz : Nat} {a : Bool} {t : TypeId} {x : AV} : elemOk sz a (.iface t x) = (!a && (sz == 1 && AV.scalar (.iface t x))) := rfl
theorem isNilSl_iface {t : TypeId} {x : AV} : isNilSl (.iface t x) = false := rfl
theorem evBin_iface {op : BinOp} {q : Bool} {t : TypeId} {x : AV} {w : AV} : evBin op q (.iface t x) w = none := by cases w <;> rfl
theorem sealG_nilIface {H : Heap} {N : Nat}  : sealG H N (.nilIface) = (.nilIface) := rfl
theorem sealV_nilIface {H : Heap} {N : Nat}  : sealV H N (.nilIface) = sealG H N (.nilIface) := rfl
theorem sealT_nilIface {H : Heap} {N : Nat}  : sealT H N (.nilIface) = sealV H N (.nilIface) := rfl
theorem elemOk_nilIface {sz : Nat} {a : Bool}  : elemOk sz a (.nilIface) = (!a && (sz == 1 && AV.scalar (.nilIface))) := rfl
theorem isNilSl_nilIface  : isNilSl (.nilIface) = false := rfl
theorem lt_nilIface {N : Nat}  : AV.lt N (.nilIface) = true := rfl
theorem evBin_nilIface {op : BinOp} {q : Bool}  {w : AV} : evBin op q (.nilIface) w = none := by cases w <;> rfl
theorem sealG_agg {H : Heap} {N : Nat} {cs : List AV} : sealG H N (.agg cs) = (.agg cs) := rfl
theorem sealT_agg {H : Heap} {N : Nat} {cs : List AV} : sealT H N (.agg cs) = sealV H N (.agg cs) := rfl
theorem isNilSl_agg {cs : List AV} : isNilSl (.agg cs) = false := rfl
theorem sealG_tup {H : Heap} {N : Nat} {cs : List AV} : sealG H N (.tup cs) = (.tup cs) := rfl
theorem sealV_tup {H : Heap} {N : Nat} {cs : List AV} : sealV H N (.tup cs) = sealG H N (.tup cs) := rfl
theorem elemOk_tup {sz : Nat} {a : Bool} {cs : List AV} : elemOk sz a (.tup cs) = (!a && (sz == 1 && AV.scalar (.tup cs))) := rfl
theorem isNilSl_tup {cs : List AV} : isNilSl (.tup cs) = false := rfl
theorem sealG_undef {H : Heap} {N : Nat}  : sealG H N (.undef) = (.undef) := rfl
theorem sealV_undef {H : Heap} {N : Nat}  : sealV H N (.undef) = sealG H N (.undef) := rfl
theorem sealT_undef {H : Heap} {N : Nat}  : sealT H N (.undef) = sealV H N (.undef) := rfl
theorem elemOk_undef {sz : Nat} {a : Bool}  : elemOk sz a (.undef) = (!a && (sz == 1 && AV.scalar (.undef))) := rfl
theorem isNilSl_undef  : isNilSl (.undef) = false := rfl
theorem lt_undef {N : Nat}  : AV.lt N (.undef) = true := rfl
theorem isNilSl_slf {es : List AV} : isNilSl (.sl false es) = false := rfl
theorem isNilSl_slc {a : AV} {es : List AV} : isNilSl (.sl true (a :: es)) = false := rfl
theorem aolt_dfr {N : Nat} : AO.lt N .dfr = true := rfl
theorem aolt_dead {N : Nat} : AO.lt N .dead = true := rfl
theorem evBin_oand {q : Bool} {k k' : IntKind} {x y : Int} : evBin .and q (.int k x) (.int k' y) = if k == k' then (bitsOp .and k x y).map (.int k) else none := rfl
theorem evBin_oor {q : Bool} {k k' : IntKind} {x y : Int} : evBin .or q (.int k x) (.int k' y) = if k == k' then (bitsOp .or k x y).map (.int k) else none := rfl
theorem evBin_oxor {q : Bool} {k k' : IntKind} {x y : Int} : evBin .xor q (.int k x) (.int k' y) = if k == k' then (bitsOp .xor k x y).map (.int k) else none := rfl
theorem evBin_oandNot {q : Bool} {k k' : IntKind} {x y : Int} : evBin .andNot q (.int k x) (.int k' y) = if k == k' then (bitsOp .andNot k x y).map (.int k) else none := rfl
theorem isConst_tmp {t : Tmp} : isConst (.tmp t) = false := rfl
theorem isConst_func {t : FuncId} : isConst (.func t) = false := rfl
theorem isConst_glob {t : Nat} : isConst (.global t) = false := rfl
theorem ofConst_int {k : IntKind} {n : Int} : ofConst (.int k n) = ofScalar (.int k n) := rfl
theorem ofConst_bool {b : Bool} : ofConst (.bool b) = ofScalar (.bool b) := rfl
theorem ofConst_pointer {p : Option Addr} : ofConst (.pointer p) = ofScalar (.pointer p) := rfl
theorem ofConst_slice {p : Option Addr} {m n : Nat} : ofConst (.slice p m n) = ofScalar (.slice p m n) := rfl
theorem ofConst_map {p : Option Nat} : ofConst (.map p) = ofScalar (.map p) := rfl
theorem ofConst_nilFunc  : ofConst (.nilFunc) = ofScalar (.nilFunc) := rfl
theorem ofConst_nilIface  : ofConst (.nilIface) = ofScalar (.nilIface) := rfl
theorem params_nil {e : Env} {vs : List AV} : Env.params e [] vs = e := by cases vs <;> rfl
theorem params_nil2 {e : Env} {t : Tmp} {ts : List Tmp} : Env.params e (t :: ts) [] = e := rfl
theorem packRes_nil : packRes [] = .tup [] := rfl
theorem packRes_two {a b : AV} {r : List AV} : packRes (a :: b :: r) = .tup (a :: b :: r) := rfl
theorem noYield_func {f : FuncId} : noYield (.func f) = true := rfl
theorem noYield_method {s : String} : noYield (.method s) = true := rfl
theorem noYield_methodOf {t : TypeId} {s : String} : noYield (.methodOf t s) = true := rfl
theorem exitTo_code {id : Nat} {c : Code} {k : List Item} : Go.exitTo id ((.code c) :: k) = Go.exitTo id k := rfl
theorem exitTo_inLoop {id : Nat} {c : Code} {k : List Item} : Go.exitTo id ((.inLoop c) :: k) = Go.exitTo id k := rfl
theorem exitTo_inScope {id : Nat} {c : Code} {k : List Item} : Go.exitTo id ((.inScope c) :: k) = Go.exitTo id k := rfl
theorem exitTo_beginRound {id : Nat}  {k : List Item} : Go.exitTo id ((.beginRound) :: k) = Go.exitTo id k := rfl
theorem evB_len {C : Cfg} {H : Heap} {tys : List TypeId} {args : List AV} : evBuiltin C H .len tys args = (match args, sliceElem C tys with | [x], some _ => (evLen x).map fun v => .val v H | _, _ => lenM C H tys args) := rfl
theorem lenM_map {C : Cfg} {H : Heap} {t : TypeId} {ts : List TypeId} {l : Nat} : lenM C H (t :: ts) [.map l] = match C.ty t with
    | some ⟨.map _ _, _, _, _⟩ => match H[l]? with
      | some (.map _ es) => some (.val (.int .i64 es.length) H)
      | _ => none
    | _ => none := rfl
theorem lenMap_value {C : Cfg} {e : Env} {f : Operand} {a : Array Operand} {t : Array TypeId} : lenMap C e ⟨.value f, a, t⟩ = false := rfl
theorem lenMap_invoke {C : Cfg} {e : Env} {f : Operand} {n : String} {a : Array Operand} {t : Array TypeId} : lenMap C e ⟨.invoke f n, a, t⟩ = false := rfl
theorem lenMap_len {C : Cfg} {e : Env} {a : Array Operand} {t : Array TypeId} : lenMap C e ⟨.builtin .len, a, t⟩ = isMapL (a.toList.map (opd C e)) := rfl
theorem lenMap_min {C : Cfg} {e : Env} {a : Array Operand} {t : Array TypeId} : lenMap C e ⟨.builtin .min, a, t⟩ = false := rfl
theorem lenMap_max {C : Cfg} {e : Env} {a : Array Operand} {t : Array TypeId} : lenMap C e ⟨.builtin .max, a, t⟩ = false := rfl
theorem lenMap_append {C : Cfg} {e : Env} {a : Array Operand} {t : Array TypeId} : lenMap C e ⟨.builtin .append, a, t⟩ = false := rfl
theorem lenMap_copy {C : Cfg} {e : Env} {a : Array Operand} {t : Array TypeId} : lenMap C e ⟨.builtin .copy, a, t⟩ = false := rfl
theorem lenMap_panic {C : Cfg} {e : Env} {a : Array Operand} {t : Array TypeId} : lenMap C e ⟨.builtin .panic, a, t⟩ = false := rfl
theorem lenMap_recover {C : Cfg} {e : Env} {a : Array Operand} {t : Array TypeId} : lenMap C e ⟨.builtin .recover, a, t⟩ = false := rfl
theorem isMapL_sl {b : Bool} {l : List AV} : isMapL [.sl b l] = false := rfl
theorem isMapL_gsl {l n : Nat} : isMapL [.gsl l n] = false := rfl
theorem isMapL_map {l : Nat} : isMapL [.map l] = true := rfl
theorem evB_append {C : Cfg} {H : Heap} {tys : List TypeId} {args : List AV} : evBuiltin C H .append tys args = (match args with | [x, y] => (evAppend C H tys x y).map fun r => .val r.1 r.2 | _ => none) := rfl
theorem evB_copy {C : Cfg} {H : Heap} {tys : List TypeId} {args : List AV} : evBuiltin C H .copy tys args = (match args with | [x, y] => (evCopy C H tys x y).map fun r => .val r.1 r.2 | _ => none) := rfl
theorem evB_panic {C : Cfg} {H : Heap} {tys : List TypeId} {args : List AV} : evBuiltin C H .panic tys args = (match args with | [.iface t v] => some (.pan (.iface t v)) | _ => none) := rfl
theorem evB_recover {C : Cfg} {H : Heap} {tys : List TypeId} {args : List AV} : evBuiltin C H .recover tys args = (match args with | [] => some .recov | _ => none) := rfl
theorem afterOp_recov {C : Cfg} {P : Program} {F : FI} {all r : List Oper} {d : Option Tmp} {e : Env} {df : List ADefer} {H : Heap} {pn : Option (AV × Bool)} : afterOp C P F all r d e df H pn .recov = match F.round, F.dfd, pn with
    | none, true, some (v, false) => opsL C P F all r ⟨e.put d v, df, H, some (v, true)⟩
    | none, _, _ => opsL C P F all r ⟨e.put d .nilIface, df, H, pn⟩
    | _, _, _ => none := rfl
theorem allocT_move {x0 : Operand} : allocT (.move x0) = none := rfl
theorem allocM_move {x0 : Operand} : allocM (.move x0) = none := rfl
theorem isAlloc_move {x0 : Operand} : isAlloc (.move x0) = false := rfl
theorem isEff_move {x0 : Operand} : isEff (.move x0) = false := rfl
theorem allocT_assign {x0 : Operand} : allocT (.assign x0) = none := rfl
theorem allocM_assign {x0 : Operand} : allocM (.assign x0) = none := rfl
theorem isAlloc_assign {x0 : Operand} : isAlloc (.assign x0) = false := rfl
theorem isEff_assign {x0 : Operand} : isEff (.assign x0) = false := rfl
theorem allocT_pick {x0 : Operand} {x1 : Operand} {x2 : Operand} : allocT (.pick x0 x1 x2) = none := rfl
theorem allocM_pick {x0 : Operand} {x1 : Operand} {x2 : Operand} : allocM (.pick x0 x1 x2) = none := rfl
theorem isAlloc_pick {x0 : Operand} {x1 : Operand} {x2 : Operand} : isAlloc (.pick x0 x1 x2) = false := rfl
theorem isEff_pick {x0 : Operand} {x1 : Operand} {x2 : Operand} : isEff (.pick x0 x1 x2) = false := rfl
theorem allocT_box {x0 : TypeId} {x1 : Operand} : allocT (.box x0 x1) = none := rfl
theorem allocM_box {x0 : TypeId} {x1 : Operand} : allocM (.box x0 x1) = none := rfl
theorem isAlloc_box {x0 : TypeId} {x1 : Operand} : isAlloc (.box x0 x1) = false := rfl
theorem allocT_build {x0 : TypeId} {x1 : (Array (Nat × Operand))} : allocT (.build x0 x1) = none := rfl
theorem allocM_build {x0 : TypeId} {x1 : (Array (Nat × Operand))} : allocM (.build x0 x1) = none := rfl
theorem isAlloc_build {x0 : TypeId} {x1 : (Array (Nat × Operand))} : isAlloc (.build x0 x1) = false := rfl
theorem isEff_build {x0 : TypeId} {x1 : (Array (Nat × Operand))} : isEff (.build x0 x1) = false := rfl
theorem allocT_buildSlice {x0 : TypeId} {x1 : Nat} {x2 : (Array (Nat × Operand))} : allocT (.buildSlice x0 x1 x2) = none := rfl
theorem allocM_buildSlice {x0 : TypeId} {x1 : Nat} {x2 : (Array (Nat × Operand))} : allocM (.buildSlice x0 x1 x2) = none := rfl
theorem isAlloc_buildSlice {x0 : TypeId} {x1 : Nat} {x2 : (Array (Nat × Operand))} : isAlloc (.buildSlice x0 x1 x2) = false := rfl
theorem isEff_buildSlice {x0 : TypeId} {x1 : Nat} {x2 : (Array (Nat × Operand))} : isEff (.buildSlice x0 x1 x2) = false := rfl
theorem allocT_load {x0 : TypeId} {x1 : Operand} : allocT (.load x0 x1) = none := rfl
theorem allocM_load {x0 : TypeId} {x1 : Operand} : allocM (.load x0 x1) = none := rfl
theorem isAlloc_load {x0 : TypeId} {x1 : Operand} : isAlloc (.load x0 x1) = false := rfl
theorem isEff_load {x0 : TypeId} {x1 : Operand} : isEff (.load x0 x1) = false := rfl
theorem allocT_store {x0 : TypeId} {x1 : Operand} {x2 : Operand} : allocT (.store x0 x1 x2) = none := rfl
theorem allocM_store {x0 : TypeId} {x1 : Operand} {x2 : Operand} : allocM (.store x0 x1 x2) = none := rfl
theorem isAlloc_store {x0 : TypeId} {x1 : Operand} {x2 : Operand} : isAlloc (.store x0 x1 x2) = false := rfl
theorem allocT_nilCheck {x0 : Operand} : allocT (.nilCheck x0) = none := rfl
theorem allocM_nilCheck {x0 : Operand} : allocM (.nilCheck x0) = none := rfl
theorem isAlloc_nilCheck {x0 : Operand} : isAlloc (.nilCheck x0) = false := rfl
theorem isEff_nilCheck {x0 : Operand} : isEff (.nilCheck x0) = false := rfl
theorem allocT_binOp {x0 : BinOp} {x1 : TypeId} {x2 : Operand} {x3 : Operand} {x4 : TypeId} : allocT (.binOp x0 x1 x2 x3 x4) = none := rfl
theorem allocM_binOp {x0 : BinOp} {x1 : TypeId} {x2 : Operand} {x3 : Operand} {x4 : TypeId} : allocM (.binOp x0 x1 x2 x3 x4) = none := rfl
theorem isAlloc_binOp {x0 : BinOp} {x1 : TypeId} {x2 : Operand} {x3 : Operand} {x4 : TypeId} : isAlloc (.binOp x0 x1 x2 x3 x4) = false := rfl
theorem isEff_binOp {x0 : BinOp} {x1 : TypeId} {x2 : Operand} {x3 : Operand} {x4 : TypeId} : isEff (.binOp x0 x1 x2 x3 x4) = false := rfl
theorem allocT_unOp {x0 : UnOp} {x1 : TypeId} {x2 : Operand} : allocT (.unOp x0 x1 x2) = none := rfl
theorem allocM_unOp {x0 : UnOp} {x1 : TypeId} {x2 : Operand} : allocM (.unOp x0 x1 x2) = none := rfl
theorem isAlloc_unOp {x0 : UnOp} {x1 : TypeId} {x2 : Operand} : isAlloc (.unOp x0 x1 x2) = false := rfl
theorem isEff_unOp {x0 : UnOp} {x1 : TypeId} {x2 : Operand} : isEff (.unOp x0 x1 x2) = false := rfl
theorem allocT_convert {x0 : TypeId} {x1 : TypeId} {x2 : Operand} : allocT (.convert x0 x1 x2) = none := rfl
theorem allocM_convert {x0 : TypeId} {x1 : TypeId} {x2 : Operand} : allocM (.convert x0 x1 x2) = none := rfl
theorem isAlloc_convert {x0 : TypeId} {x1 : TypeId} {x2 : Operand} : isAlloc (.convert x0 x1 x2) = false := rfl
theorem isEff_convert {x0 : TypeId} {x1 : TypeId} {x2 : Operand} : isEff (.convert x0 x1 x2) = false := rfl
theorem allocT_makeInterface {x0 : TypeId} {x1 : Operand} : allocT (.makeInterface x0 x1) = none := rfl
theorem allocM_makeInterface {x0 : TypeId} {x1 : Operand} : allocM (.makeInterface x0 x1) = none := rfl
theorem isAlloc_makeInterface {x0 : TypeId} {x1 : Operand} : isAlloc (.makeInterface x0 x1) = false := rfl
theorem isEff_makeInterface {x0 : TypeId} {x1 : Operand} : isEff (.makeInterface x0 x1) = false := rfl
theorem allocT_makeFunc {x0 : Fn} {x1 : (Array Operand)} {x2 : (Array Operand)} : allocT (.makeFunc x0 x1 x2) = none := rfl
theorem allocM_makeFunc {x0 : Fn} {x1 : (Array Operand)} {x2 : (Array Operand)} : allocM (.makeFunc x0 x1 x2) = none := rfl
theorem isAlloc_makeFunc {x0 : Fn} {x1 : (Array Operand)} {x2 : (Array Operand)} : isAlloc (.makeFunc x0 x1 x2) = false := rfl
theorem isEff_makeFunc {x0 : Fn} {x1 : (Array Operand)} {x2 : (Array Operand)} : isEff (.makeFunc x0 x1 x2) = false := rfl
theorem allocT_makeSlice {x0 : TypeId} {x1 : Operand} {x2 : Operand} : allocT (.makeSlice x0 x1 x2) = none := rfl
theorem allocM_makeSlice {x0 : TypeId} {x1 : Operand} {x2 : Operand} : allocM (.makeSlice x0 x1 x2) = none := rfl
theorem isAlloc_makeSlice {x0 : TypeId} {x1 : Operand} {x2 : Operand} : isAlloc (.makeSlice x0 x1 x2) = false := rfl
theorem allocT_slice {x0 : TypeId} {x1 : Operand} {x2 : (Option Operand)} {x3 : (Option Operand)} {x4 : (Option Operand)} : allocT (.slice x0 x1 x2 x3 x4) = none := rfl
theorem allocM_slice {x0 : TypeId} {x1 : Operand} {x2 : (Option Operand)} {x3 : (Option Operand)} {x4 : (Option Operand)} : allocM (.slice x0 x1 x2 x3 x4) = none := rfl
theorem isAlloc_slice {x0 : TypeId} {x1 : Operand} {x2 : (Option Operand)} {x3 : (Option Operand)} {x4 : (Option Operand)} : isAlloc (.slice x0 x1 x2 x3 x4) = false := rfl
theorem isEff_slice {x0 : TypeId} {x1 : Operand} {x2 : (Option Operand)} {x3 : (Option Operand)} {x4 : (Option Operand)} : isEff (.slice x0 x1 x2 x3 x4) = false := rfl
theorem allocT_fieldAddr {x0 : TypeId} {x1 : Operand} {x2 : Nat} : allocT (.fieldAddr x0 x1 x2) = none := rfl
theorem allocM_fieldAddr {x0 : TypeId} {x1 : Operand} {x2 : Nat} : allocM (.fieldAddr x0 x1 x2) = none := rfl
theorem isAlloc_fieldAddr {x0 : TypeId} {x1 : Operand} {x2 : Nat} : isAlloc (.fieldAddr x0 x1 x2) = false := rfl
theorem isEff_fieldAddr {x0 : TypeId} {x1 : Operand} {x2 : Nat} : isEff (.fieldAddr x0 x1 x2) = false := rfl
theorem allocT_field {x0 : TypeId} {x1 : Operand} {x2 : Nat} : allocT (.field x0 x1 x2) = none := rfl
theorem allocM_field {x0 : TypeId} {x1 : Operand} {x2 : Nat} : allocM (.field x0 x1 x2) = none := rfl
theorem isAlloc_field {x0 : TypeId} {x1 : Operand} {x2 : Nat} : isAlloc (.field x0 x1 x2) = false := rfl
theorem isEff_field {x0 : TypeId} {x1 : Operand} {x2 : Nat} : isEff (.field x0 x1 x2) = false := rfl
theorem allocT_indexAddr {x0 : TypeId} {x1 : Operand} {x2 : Operand} : allocT (.indexAddr x0 x1 x2) = none := rfl
theorem allocM_indexAddr {x0 : TypeId} {x1 : Operand} {x2 : Operand} : allocM (.indexAddr x0 x1 x2) = none := rfl
theorem isAlloc_indexAddr {x0 : TypeId} {x1 : Operand} {x2 : Operand} : isAlloc (.indexAddr x0 x1 x2) = false := rfl
theorem isEff_indexAddr {x0 : TypeId} {x1 : Operand} {x2 : Operand} : isEff (.indexAddr x0 x1 x2) = false := rfl
theorem allocT_index {x0 : TypeId} {x1 : Operand} {x2 : Operand} : allocT (.index x0 x1 x2) = none := rfl
theorem allocM_index {x0 : TypeId} {x1 : Operand} {x2 : Operand} : allocM (.index x0 x1 x2) = none := rfl
theorem isAlloc_index {x0 : TypeId} {x1 : Operand} {x2 : Operand} : isAlloc (.index x0 x1 x2) = false := rfl
theorem isEff_index {x0 : TypeId} {x1 : Operand} {x2 : Operand} : isEff (.index x0 x1 x2) = false := rfl
theorem allocT_lookup {x0 : TypeId} {x1 : Operand} {x2 : Operand} {x3 : Bool} : allocT (.lookup x0 x1 x2 x3) = none := rfl
theorem allocM_lookup {x0 : TypeId} {x1 : Operand} {x2 : Operand} {x3 : Bool} : allocM (.lookup x0 x1 x2 x3) = none := rfl
theorem isAlloc_lookup {x0 : TypeId} {x1 : Operand} {x2 : Operand} {x3 : Bool} : isAlloc (.lookup x0 x1 x2 x3) = false := rfl
theorem isEff_lookup {x0 : TypeId} {x1 : Operand} {x2 : Operand} {x3 : Bool} : isEff (.lookup x0 x1 x2 x3) = false := rfl
theorem allocT_mapUpdate {x0 : TypeId} {x1 : Operand} {x2 : Operand} {x3 : Operand} : allocT (.mapUpdate x0 x1 x2 x3) = none := rfl
theorem allocM_mapUpdate {x0 : TypeId} {x1 : Operand} {x2 : Operand} {x3 : Operand} : allocM (.mapUpdate x0 x1 x2 x3) = none := rfl
theorem isAlloc_mapUpdate {x0 : TypeId} {x1 : Operand} {x2 : Operand} {x3 : Operand} : isAlloc (.mapUpdate x0 x1 x2 x3) = false := rfl
theorem allocT_typeAssert {x0 : Operand} {x1 : TypeId} {x2 : TypeId} {x3 : Bool} : allocT (.typeAssert x0 x1 x2 x3) = none := rfl
theorem allocM_typeAssert {x0 : Operand} {x1 : TypeId} {x2 : TypeId} {x3 : Bool} : allocM (.typeAssert x0 x1 x2 x3) = none := rfl
theorem isAlloc_typeAssert {x0 : Operand} {x1 : TypeId} {x2 : TypeId} {x3 : Bool} : isAlloc (.typeAssert x0 x1 x2 x3) = false := rfl
theorem isEff_typeAssert {x0 : Operand} {x1 : TypeId} {x2 : TypeId} {x3 : Bool} : isEff (.typeAssert x0 x1 x2 x3) = false := rfl
theorem allocT_extract {x0 : Operand} {x1 : Nat} : allocT (.extract x0 x1) = none := rfl
theorem allocM_extract {x0 : Operand} {x1 : Nat} : allocM (.extract x0 x1) = none := rfl
theorem isAlloc_extract {x0 : Operand} {x1 : Nat} : isAlloc (.extract x0 x1) = false := rfl
theorem isEff_extract {x0 : Operand} {x1 : Nat} : isEff (.extract x0 x1) = false := rfl
theorem allocT_call {x0 : Call} : allocT (.call x0) = none := rfl
theorem allocM_call {x0 : Call} : allocM (.call x0) = none := rfl
theorem isAlloc_call {x0 : Call} : isAlloc (.call x0) = false := rfl
theorem allocT_defer {x0 : Call} : allocT (.defer x0) = none := rfl
theorem allocM_defer {x0 : Call} : allocM (.defer x0) = none := rfl
theorem isAlloc_defer {x0 : Call} : isAlloc (.defer x0) = false := rfl
theorem allocT_panic {x0 : Operand} : allocT (.panic x0) = none := rfl
theorem allocM_panic {x0 : Operand} : allocM (.panic x0) = none := rfl
theorem isAlloc_panic {x0 : Operand} : isAlloc (.panic x0) = false := rfl
theorem allocM_alloc {t : TypeId} : allocM (.alloc t) = none := rfl
theorem isEff_alloc {t : TypeId} : isEff (.alloc t) = false := rfl
theorem allocT_makeMap {t : TypeId} {m : Option Operand} : allocT (.makeMap t m) = none := rfl
theorem allocM_makeMapS {t : TypeId} {m : Operand} : allocM (.makeMap t (some m)) = none := rfl
theorem isAlloc_makeMapS {t : TypeId} {m : Operand} : isAlloc (.makeMap t (some m)) = false := rfl
theorem isEff_cv {f : Operand} {a : Array Operand} {ts : Array TypeId} : isEff (.call ⟨(.value f), a, ts⟩) = true := rfl
theorem isEff_ci {f : Operand} {s : String} {a : Array Operand} {ts : Array TypeId} : isEff (.call ⟨(.invoke f s), a, ts⟩) = true := rfl
theorem isEff_cappend  {a : Array Operand} {ts : Array TypeId} : isEff (.call ⟨(.builtin .append), a, ts⟩) = true := rfl
theorem isEff_ccopy  {a : Array Operand} {ts : Array TypeId} : isEff (.call ⟨(.builtin .copy), a, ts⟩) = true := rfl
theorem isEff_cpanic  {a : Array Operand} {ts : Array TypeId} : isEff (.call ⟨(.builtin .panic), a, ts⟩) = true := rfl
theorem isEff_crecover  {a : Array Operand} {ts : Array TypeId} : isEff (.call ⟨(.builtin .recover), a, ts⟩) = true := rfl
theorem eqOk_bool {C : Cfg} {t0 : TypeId} {b : Bool} {y0 : AV} : eqOk C t0 (.bool b) y0 = (eqFit C t0 (.bool b) && eqFit C t0 y0) := rfl
theorem eqOk_nilp {C : Cfg} {t0 : TypeId}  {y0 : AV} : eqOk C t0 (.nilp) y0 = (eqFit C t0 (.nilp) && eqFit C t0 y0) := rfl
theorem eqOk_ptr {C : Cfg} {t0 : TypeId} {l o : Nat} {y0 : AV} : eqOk C t0 (.ptr l o) y0 = (eqFit C t0 (.ptr l o) && eqFit C t0 y0) := rfl
theorem eqOk_eptr {C : Cfg} {t0 : TypeId} {l n i o : Nat} {y0 : AV} : eqOk C t0 (.eptr l n i o) y0 = (eqFit C t0 (.eptr l n i o) && eqFit C t0 y0) := rfl
theorem eqOk_vptr {C : Cfg} {t0 : TypeId} {x : AV} {o : Nat} {y0 : AV} : eqOk C t0 (.vptr x o) y0 = (eqFit C t0 (.vptr x o) && eqFit C t0 y0) := rfl
theorem eqOk_sl {C : Cfg} {t0 : TypeId} {f : Bool} {es : List AV} {y0 : AV} : eqOk C t0 (.sl f es) y0 = (eqFit C t0 (.sl f es) && eqFit C t0 y0) := rfl
theorem eqOk_gsl {C : Cfg} {t0 : TypeId} {l n : Nat} {y0 : AV} : eqOk C t0 (.gsl l n) y0 = (eqFit C t0 (.gsl l n) && eqFit C t0 y0) := rfl
theorem eqOk_map {C : Cfg} {t0 : TypeId} {l : Nat} {y0 : AV} : eqOk C t0 (.map l) y0 = (eqFit C t0 (.map l) && eqFit C t0 y0) := rfl
theorem eqOk_nilmap {C : Cfg} {t0 : TypeId}  {y0 : AV} : eqOk C t0 (.nilmap) y0 = (eqFit C t0 (.nilmap) && eqFit C t0 y0) := rfl
theorem eqOk_func {C : Cfg} {t0 : TypeId} {fn : Fn} {x y : List AV} {y0 : AV} : eqOk C t0 (.func fn x y) y0 = (eqFit C t0 (.func fn x y) && eqFit C t0 y0) := rfl
theorem eqOk_nilFunc {C : Cfg} {t0 : TypeId}  {y0 : AV} : eqOk C t0 (.nilFunc) y0 = (eqFit C t0 (.nilFunc) && eqFit C t0 y0) := rfl
theorem eqOk_iface {C : Cfg} {t0 : TypeId} {t : TypeId} {x : AV} {y0 : AV} : eqOk C t0 (.iface t x) y0 = (eqFit C t0 (.iface t x) && eqFit C t0 y0) := rfl
theorem eqOk_nilIface {C : Cfg} {t0 : TypeId}  {y0 : AV} : eqOk C t0 (.nilIface) y0 = (eqFit C t0 (.nilIface) && eqFit C t0 y0) := rfl
theorem eqOk_agg {C : Cfg} {t0 : TypeId} {cs : List AV} {y0 : AV} : eqOk C t0 (.agg cs) y0 = (eqFit C t0 (.agg cs) && eqFit C t0 y0) := rfl
theorem eqOk_tup {C : Cfg} {t0 : TypeId} {cs : List AV} {y0 : AV} : eqOk C t0 (.tup cs) y0 = (eqFit C t0 (.tup cs) && eqFit C t0 y0) := rfl
theorem eqOk_undef {C : Cfg} {t0 : TypeId}  {y0 : AV} : eqOk C t0 (.undef) y0 = (eqFit C t0 (.undef) && eqFit C t0 y0) := rfl
attribute [go_sem] sealG_int sealV_int sealT_int elemOk_int isNilSl_int lt_int sealG_bool sealV_bool sealT_bool elemOk_bool isNilSl_bool lt_bool sealG_nilp sealV_nilp sealT_nilp elemOk_nilp isNilSl_nilp lt_nilp evBin_nilp sealG_ptr sealV_ptr sealT_ptr elemOk_ptr isNilSl_ptr evBin_ptr sealG_eptr sealV_eptr sealT_eptr elemOk_eptr isNilSl_eptr sealG_vptr sealV_vptr sealT_vptr elemOk_vptr isNilSl_vptr lt_vptr sealG_sl sealV_sl sealT_sl elemOk_sl lt_sl sealV_gsl sealT_gsl elemOk_gsl isNilSl_gsl sealG_map sealV_map sealT_map elemOk_map isNilSl_map evBin_map sealG_nilmap sealV_nilmap sealT_nilmap elemOk_nilmap isNilSl_nilmap lt_nilmap evBin_nilmap sealG_func sealV_func sealT_func elemOk_func isNilSl_func evBin_func sealG_nilFunc sealV_nilFunc sealT_nilFunc elemOk_nilFunc isNilSl_nilFunc lt_nilFunc evBin_nilFunc sealG_iface sealV_iface sealT_iface elemOk_iface isNilSl_iface evBin_iface sealG_nilIface sealV_nilIface sealT_nilIface elemOk_nilIface isNilSl_nilIface lt_nilIface evBin_nilIface sealG_agg sealT_agg isNilSl_agg sealG_tup sealV_tup elemOk_tup isNilSl_tup sealG_undef sealV_undef sealT_undef elemOk_undef isNilSl_undef lt_undef isNilSl_slf isNilSl_slc aolt_dfr aolt_dead evBin_oand evBin_oor evBin_oxor evBin_oandNot isConst_tmp isConst_func isConst_glob ofConst_int ofConst_bool ofConst_pointer ofConst_slice ofConst_map ofConst_nilFunc ofConst_nilIface params_nil params_nil2 packRes_nil packRes_two noYield_func noYield_method noYield_methodOf exitTo_code exitTo_inLoop exitTo_inScope exitTo_beginRound evB_len lenM_map lenMap_value lenMap_invoke lenMap_len lenMap_min lenMap_max lenMap_append lenMap_copy lenMap_panic lenMap_recover isMapL_sl isMapL_gsl isMapL_map evB_append evB_copy evB_panic evB_recover afterOp_recov allocT_move allocM_move isAlloc_move isEff_move allocT_assign allocM_assign isAlloc_assign isEff_assign allocT_pick allocM_pick isAlloc_pick isEff_pick allocT_box allocM_box isAlloc_box allocT_build allocM_build isAlloc_build isEff_build allocT_buildSlice allocM_buildSlice isAlloc_buildSlice isEff_buildSlice allocT_load allocM_load isAlloc_load isEff_load allocT_store allocM_store isAlloc_store allocT_nilCheck allocM_nilCheck isAlloc_nilCheck isEff_nilCheck allocT_binOp allocM_binOp isAlloc_binOp isEff_binOp allocT_unOp allocM_unOp isAlloc_unOp isEff_unOp allocT_convert allocM_convert isAlloc_convert isEff_convert allocT_makeInterface allocM_makeInterface isAlloc_makeInterface isEff_makeInterface allocT_makeFunc allocM_makeFunc isAlloc_makeFunc isEff_makeFunc allocT_makeSlice allocM_makeSlice isAlloc_makeSlice allocT_slice allocM_slice isAlloc_slice isEff_slice allocT_fieldAddr allocM_fieldAddr isAlloc_fieldAddr isEff_fieldAddr allocT_field allocM_field isAlloc_field isEff_field allocT_indexAddr allocM_indexAddr isAlloc_indexAddr isEff_indexAddr allocT_index allocM_index isAlloc_index isEff_index allocT_lookup allocM_lookup isAlloc_lookup isEff_lookup allocT_mapUpdate allocM_mapUpdate isAlloc_mapUpdate allocT_typeAssert allocM_typeAssert isAlloc_typeAssert isEff_typeAssert allocT_extract allocM_extract isAlloc_extract isEff_extract allocT_call allocM_call isAlloc_call allocT_defer allocM_defer isAlloc_defer allocT_panic allocM_panic isAlloc_panic allocM_alloc isEff_alloc allocT_makeMap allocM_makeMapS isAlloc_makeMapS isEff_cv isEff_ci isEff_cappend isEff_ccopy isEff_cpanic isEff_crecover eqOk_bool eqOk_nilp eqOk_ptr eqOk_eptr eqOk_vptr eqOk_sl eqOk_gsl eqOk_map eqOk_nilmap eqOk_func eqOk_nilFunc eqOk_iface eqOk_nilIface eqOk_agg eqOk_tup eqOk_undef

theorem finK_true {n : Nat} {d : Done} : finK true n d = d := rfl
attribute [go_sem] finK_true
theorem finG_tup {N : Nat} {vs : List AV} {H : Heap} {pan : Option (AV × Bool)} : finG N ⟨.ret (.tup vs), H, pan⟩ = match gIdx N vs with
    | some i => match H[i]? with
      | some (.grow sz xs) => if (decide (N ≤ i) && ltL 0 xs) && vs.all (reOk N i) then ⟨.ret (.tup (vs.map (reV N i))), H.take N ++ [.grow sz xs], pan⟩ else ⟨.ret (.tup vs), H, pan⟩
      | _ => ⟨.ret (.tup vs), H, pan⟩
    | none => finishC N ⟨.ret (.tup vs), H, pan⟩ := rfl
theorem finG_pan {N : Nat} {v : AV} {H : Heap} {pan : Option (AV × Bool)} : finG N ⟨.pan v, H, pan⟩ = finishC N ⟨.pan v, H, pan⟩ := rfl
theorem gIdx_nil {N : Nat} : gIdx N [] = none := rfl
theorem gIdx_int {N : Nat} {k : IntKind} {n : Int} {r : List AV} : gIdx N (.int k n :: r) = gIdx N r := rfl
theorem gIdx_bool {N : Nat} {b : Bool} {r : List AV} : gIdx N (.bool b :: r) = gIdx N r := rfl
theorem gIdx_sl {N : Nat} {f : Bool} {es r : List AV} : gIdx N (.sl f es :: r) = gIdx N r := rfl
theorem gIdx_gsl {N l n : Nat} {r : List AV} : gIdx N (.gsl l n :: r) = if N ≤ l then some l else gIdx N r := rfl
theorem reV_int {N i : Nat} {k : IntKind} {n : Int} : reV N i (.int k n) = .int k n := rfl
theorem reV_bool {N i : Nat} {b : Bool} : reV N i (.bool b) = .bool b := rfl
theorem reV_sl {N i : Nat} {f : Bool} {es : List AV} : reV N i (.sl f es) = .sl f es := rfl
theorem reV_gsl {N i l n : Nat} : reV N i (.gsl l n) = if l = i then .gsl N n else .gsl l n := rfl
theorem reOk_int {N i : Nat} {k : IntKind} {n : Int} : reOk N i (.int k n) = true := rfl
theorem reOk_bool {N i : Nat} {b : Bool} : reOk N i (.bool b) = true := rfl
theorem reOk_gsl {N i l n : Nat} : reOk N i (.gsl l n) = (l == i || decide (l < N)) := rfl
attribute [go_sem] finG_tup finG_pan gIdx_nil gIdx_int gIdx_bool gIdx_sl gIdx_gsl reV_int reV_bool reV_sl reV_gsl reOk_int reOk_bool reOk_gsl

/-! ### Marks where slices that grew are worth their elements -/

theorem gcSeal_mk {F : FI} {L : List Nat} {m : Nat} {N : List NT} {e : Env} {df : List ADefer} {H : Heap} {pn : Option (AV × Bool)} : gcSeal F L m N ⟨e, df, H, pn⟩ =
    if envLt (F.base + m) (sealE H (F.base + m) (keepEnv e L)) && (heapLt (F.base + m) ((H.take F.base ++ sealH H (F.base + m) ((H.drop F.base).take m)).drop F.base) && dfrLt (F.base + m) df) then
      some (nilSt F.base N ⟨sealE H (F.base + m) (keepEnv e L), df, H.take F.base ++ sealH H (F.base + m) ((H.drop F.base).take m), pn⟩) else none := rfl
theorem sealE_nil {H : Heap} {N : Nat} : sealE H N [] = [] := rfl
theorem sealE_cons {H : Heap} {N k : Nat} {v : AV} {r : Env} : sealE H N ((k, v) :: r) = (k, if v.lt N then v else sealP H N v) :: sealE H N r := rfl
def vpA (l o : Nat) (w : AV) : AV := if w.lt 0 then .vptr w o else .ptr l o
def boxA (l o : Nat) : Option AO → AV
  | some (.box w) => vpA l o w
  | _ => .ptr l o
theorem sealP_ptr {H : Heap} {N l o : Nat} : sealP H N (.ptr l o) = boxA l o H[l]? := by
  cases h : H[l]? with
  | none => simp [sealP, h, boxA]
  | some x => cases x <;> simp [sealP, h, boxA, vpA]
theorem boxA_box {l o : Nat} {w : AV} : boxA l o (some (.box w)) = vpA l o w := rfl
theorem vpA_eq {l o : Nat} {w : AV} : vpA l o w = if w.lt 0 then .vptr w o else .ptr l o := rfl
theorem sealP_gsl {H : Heap} {N l n : Nat} : sealP H N (.gsl l n) = sealV H N (.gsl l n) := rfl
theorem sealP_agg {H : Heap} {N : Nat} {cs : List AV} : sealP H N (.agg cs) = sealV H N (.agg cs) := rfl
theorem sealP_map {H : Heap} {N l : Nat} : sealP H N (.map l) = sealV H N (.map l) := rfl
theorem sealP_eptr {H : Heap} {N l n i o : Nat} : sealP H N (.eptr l n i o) = sealV H N (.eptr l n i o) := rfl
theorem sealP_func {H : Heap} {N : Nat} {f : Fn} {a b : List AV} : sealP H N (.func f a b) = sealV H N (.func f a b) := rfl
theorem sealP_iface {H : Heap} {N : Nat} {t : TypeId} {v : AV} : sealP H N (.iface t v) = sealV H N (.iface t v) := rfl
attribute [go_sem] sealP_ptr boxA_box vpA_eq sealP_gsl sealP_agg sealP_map sealP_eptr sealP_func sealP_iface
theorem sealH_nil {H : Heap} {N : Nat} : sealH H N [] = [] := rfl
theorem sealH_cons {H : Heap} {N : Nat} {o : AO} {r : Heap} : sealH H N (o :: r) = (if o.lt N then o else sealB H N o) :: sealH H N r := rfl
theorem sealB_box {H : Heap} {N : Nat} {v : AV} : sealB H N (.box v) = .box (sealV H N v) := rfl
theorem nilSt_nil {b : Nat} {s : St} : nilSt b [] s = s := rfl
theorem nilSt_none {b k z : Nat} {r : List NT} {s : St} : nilSt b (⟨k, none, z⟩ :: r) s = nilSt b r (nilT ⟨k, none, z⟩ (s.env.get k) s) := rfl
theorem nilSt_some {b k z o : Nat} {r : List NT} {s : St} : nilSt b (⟨k, some o, z⟩ :: r) s = nilSt b r (nilP b o z (s.env.get k) s) := rfl
theorem nilT_mk {k z : Nat} {o : Option Nat} {v : AV} {e : Env} {df : List ADefer} {H : Heap} {pn : Option (AV × Bool)} : nilT ⟨k, o, z⟩ v ⟨e, df, H, pn⟩ = if isNilSl v then ⟨(k, .gsl H.length 0) :: e, df, H ++ [.grow z []], pn⟩ else ⟨e, df, H ++ [.grow z []], pn⟩ := rfl
theorem nilP_ptr {b o z l x : Nat} {s : St} : nilP b o z (.ptr l x) s = nilB b l o z s.H[l]? s := rfl
theorem nilB_agg {b l o z : Nat} {cs : List AV} {e : Env} {df : List ADefer} {H : Heap} {pn : Option (AV × Bool)} : nilB b l o z (some (.box (.agg cs))) ⟨e, df, H, pn⟩ = if isNilSl (cs.getD o .undef) && decide (b ≤ l) then ⟨e, df, H.set l (.box (.agg (cs.set o (.gsl H.length 0)))) ++ [.grow z []], pn⟩ else ⟨e, df, H, pn⟩ := rfl
theorem nilB_nil {b l o z : Nat} {e : Env} {df : List ADefer} {H : Heap} {pn : Option (AV × Bool)} : nilB b l o z (some (.box (.sl true []))) ⟨e, df, H, pn⟩ = if decide (b ≤ l) then ⟨e, df, H.set l (.box (.gsl H.length 0)) ++ [.grow z []], pn⟩ else ⟨e, df, H, pn⟩ := rfl
theorem nilB_gsl {b l o z x n : Nat} {s : St} : nilB b l o z (some (.box (.gsl x n))) s = s := rfl
theorem nilB_slc {b l o z : Nat} {a : AV} {es : List AV} {s : St} : nilB b l o z (some (.box (.sl true (a :: es)))) s = s := rfl
attribute [go_sem] nilB_nil nilB_gsl nilB_slc gcSeal_mk sealE_nil sealE_cons sealH_nil sealH_cons sealB_box nilSt_nil nilSt_none nilSt_some nilT_mk nilP_ptr nilB_agg

/-! ### Entries of maps -/

def mapT (v : AV) (o : Option Heap) : Option OpR :=
  match o with
  | some H => some (.val v H)
  | none => none

theorem omapT (v : AV) (o : Option Heap) : o.map (fun H => OpR.val v H) = mapT v o := by cases o <;> rfl
theorem mapT_some {v : AV} {H : Heap} : mapT v (some H) = some (.val v H) := rfl
theorem ev_mapEntry {C : Cfg} {P : Program} {F : FI} {H : Heap} {e : Env} {d : Option Tmp} {t : TypeId} {p : String} {a : Array Edge} {g : Option (Nat × Bool)} {T : TypeId} {m x : Operand} : evOp C P F H e ⟨d, .mapEntry T m x, t, p, a, g⟩ = match C.ty T with
    | some ⟨.map kt et, _, _, _⟩ => if eqFit C kt (opd C e x) then (match opd C e m with
      | .map l => match H[l]? with
        | some (.map kt' es) => if kt' = kt then (match C.ty et with
          | some te => if te.zeroOk then mapT (.tup [(lookupM (opd C e x) es).getD te.zv, .int .i64 (idxM (opd C e x) es)]) (storeObj H F.base l ((lookupM (opd C e x) es).getD te.zv) (.map kt (putM (opd C e x) ((lookupM (opd C e x) es).getD te.zv) es))) else none
          | none => none) else none
        | _ => none
      | _ => none) else none
    | _ => none := by
  simp only [evOp, omapT]; rfl
theorem ev_entryStore {C : Cfg} {P : Program} {F : FI} {H : Heap} {e : Env} {d : Option Tmp} {t : TypeId} {p : String} {a : Array Edge} {g : Option (Nat × Bool)} {T : TypeId} {m x y : Operand} : evOp C P F H e ⟨d, .entryStore T m x y, t, p, a, g⟩ = match opd C e m, opd C e x with
    | .map l, .int .i64 n => match H[l]? with
      | some (.map kt es) => if decide (0 ≤ n ∧ n.toNat < es.length) then mapT .undef (storeObj H F.base l (opd C e y) (.map kt (setM (opd C e y) n.toNat es))) else none
      | _ => none
    | _, _ => none := by
  simp only [evOp, omapT]; rfl
theorem setM_idx {k v x : AV} : ∀ es : List (AV × AV), setM x (idxM k es) (putM k v es) = putM k x es
  | [] => rfl
  | (k', v') :: r => by
    simp only [idxM, putM]
    split
    · rfl
    · simp only [setM, setM_idx r]
theorem idxM_lt {k v : AV} : ∀ es : List (AV × AV), idxM k es < (putM k v es).length
  | [] => by simp [idxM, putM]
  | (k', v') :: r => by
    simp only [idxM, putM]
    split
    · simp
    · have := idxM_lt (k := k) (v := v) r
      simp only [List.length_cons]; omega
theorem entry_at {k v : AV} {es : List (AV × AV)} : (0 ≤ ((idxM k es : Nat) : Int) ∧ idxM k es < (putM k v es).length) = True := eq_true ⟨Int.natCast_nonneg _, idxM_lt es⟩
theorem idxM_ltT {k v : AV} {es : List (AV × AV)} : (idxM k es < (putM k v es).length) = True := eq_true (idxM_lt es)
theorem allocT_mapEntry {x0 : TypeId} {x1 x2 : Operand} : allocT (.mapEntry x0 x1 x2) = none := rfl
theorem allocM_mapEntry {x0 : TypeId} {x1 x2 : Operand} : allocM (.mapEntry x0 x1 x2) = none := rfl
theorem isAlloc_mapEntry {x0 : TypeId} {x1 x2 : Operand} : isAlloc (.mapEntry x0 x1 x2) = false := rfl
theorem isEff_mapEntry {x0 : TypeId} {x1 x2 : Operand} : isEff (.mapEntry x0 x1 x2) = true := rfl
theorem allocT_entryStore {x0 : TypeId} {x1 x2 x3 : Operand} : allocT (.entryStore x0 x1 x2 x3) = none := rfl
theorem allocM_entryStore {x0 : TypeId} {x1 x2 x3 : Operand} : allocM (.entryStore x0 x1 x2 x3) = none := rfl
theorem isAlloc_entryStore {x0 : TypeId} {x1 x2 x3 : Operand} : isAlloc (.entryStore x0 x1 x2 x3) = false := rfl
theorem isEff_entryStore {x0 : TypeId} {x1 x2 x3 : Operand} : isEff (.entryStore x0 x1 x2 x3) = true := rfl
attribute [go_sem] mapT_some ev_mapEntry ev_entryStore setM_idx entry_at idxM_ltT true_and allocT_mapEntry allocM_mapEntry isAlloc_mapEntry isEff_mapEntry allocT_entryStore allocM_entryStore isAlloc_entryStore isEff_entryStore Option.getD_some Option.getD_none

/-! ### Ranges over maps -/

theorem ev_range {C : Cfg} {P : Program} {F : FI} {H : Heap} {e : Env} {d : Option Tmp} {t : TypeId} {p : String} {a : Array Edge} {g : Option (Nat × Bool)} {T : TypeId} {x : Operand} : evOp C P F H e ⟨d, .range T x, t, p, a, g⟩ = match C.ty T with
    | some ⟨.map _ _, _, _, _⟩ => match opd C e x with
      | .map l => match H[l]? with
        | some (.map _ es) => some (.val (.ptr H.length 0) (H ++ [.iter l es.length []]))
        | _ => none
      | _ => none
    | _ => none := rfl
theorem ev_entry {C : Cfg} {P : Program} {F : FI} {H : Heap} {e : Env} {d : Option Tmp} {t : TypeId} {p : String} {a : Array Edge} {g : Option (Nat × Bool)} {x : Operand} : evOp C P F H e ⟨d, .entry x, t, p, a, g⟩ = match opd C e x with
    | .ptr l 0 => match H[l]? with
      | some (.iter m n seen) => match H[m]?, seen.getLast? with
        | some (.map _ es), some i => if es.length = n then (match es[i]? with
          | some (k, v) => some (.val (.tup [k, v]) H)
          | none => none) else none
        | _, _ => none
      | _ => none
    | _ => none := rfl
theorem allocT_range {x0 : TypeId} {x1 : Operand} : allocT (.range x0 x1) = none := rfl
theorem allocM_range {x0 : TypeId} {x1 : Operand} : allocM (.range x0 x1) = none := rfl
theorem isAlloc_range {x0 : TypeId} {x1 : Operand} : isAlloc (.range x0 x1) = false := rfl
theorem isEff_range {x0 : TypeId} {x1 : Operand} : isEff (.range x0 x1) = true := rfl
attribute [go_sem] nxK_f nxK_t isNext.eq_1 isNext.eq_2 ev_range ev_entry allocT_range allocM_range isAlloc_range isEff_range List.getLast?_append List.getLast?_singleton List.getLast?_concat Option.some_or

/-- The next entry: each that is left, or the end, if none is. -/
theorem exec_nx {C : Cfg} {P : Program} {F : FI} {k : List Item} {s : St} {e : Env} {df : List ADefer} {H : Heap} {pn : Option (AV × Bool)} {id : Nat} {d : Option Tmp} {it : Operand} {t : TypeId} {p : String} {a : Array Edge} {r : List Oper} {li m n : Nat} {seen : List Nat} {kt : TypeId} {es : List (AV × AV)} {D : Done}
    (hg : gcAt C F id s = some ⟨e, df, H, pn⟩) (h1 : opd C e it = .ptr li 0) (h2 : H[li]? = some (.iter m n seen)) (h3 : H[m]? = some (.map kt es)) (h4 : es.length = n)
    (hend : (∀ i, i < n → i ∈ seen) → regK (opsL C P F (⟨d, .next it false, t, p, a, none⟩ :: r) r ⟨e.put d (.tup [.bool false]), df, H.set li (.iter m n seen), pn⟩) (fun s' => execL C P F k s') (fun v s' => unwL C P F (some (v, false)) s') = some D)
    (hgo : ∀ i, i < n → i ∉ seen → regK (opsL C P F (⟨d, .next it false, t, p, a, none⟩ :: r) r ⟨e.put d (.tup [.bool true, (es.getD i (.undef, .undef)).1, (es.getD i (.undef, .undef)).2]), df, H.set li (.iter m n (seen ++ [i])), pn⟩) (fun s' => execL C P F k s') (fun v s' => unwL C P F (some (v, false)) s') = some D) :
    nextR C P F id (⟨d, .next it false, t, p, a, none⟩ :: r) k s = some D := by
  unfold nextR
  have hn : nextOf C (⟨d, .next it false, t, p, a, none⟩ :: r) ⟨e, df, H, pn⟩ = some ((nextVals es seen).map fun q => ⟨e.put d q.1, df, H.set li (.iter m n q.2), pn⟩) := by
    simp only [nextOf, h1, h2, h3, h4, if_true]
  have hne : nextVals es seen ≠ [] := by
    simp only [nextVals]
    split
    · simp
    · rename_i hne; simpa using hne
  have reg : ∀ s2 : St, (match opsL C P F (⟨d, .next it false, t, p, a, none⟩ :: r) r s2 with
      | some (.ok s') => execL C P F k s'
      | some (.pan v s') => unwL C P F (some (v, false)) s'
      | none => none) = regK (opsL C P F (⟨d, .next it false, t, p, a, none⟩ :: r) r s2) (fun s' => execL C P F k s') (fun v s' => unwL C P F (some (v, false)) s') := by
    intro s2
    cases opsL C P F (⟨d, .next it false, t, p, a, none⟩ :: r) r s2 with
    | none => rfl
    | some x => cases x <;> rfl
  refine execL_next (by rfl) hg hn (by simpa using hne) fun s2 hs => ?_
  obtain ⟨q, hq, rfl⟩ := List.mem_map.1 hs
  refine (reg _).trans ?_
  simp only [nextVals] at hq
  split at hq
  · rename_i he
    rw [List.mem_singleton] at hq
    subst hq
    refine hend fun i hi => ?_
    refine Classical.byContradiction fun hc => ?_
    have : i ∈ (List.range es.length).filter (fun i => !seen.contains i) := List.mem_filter.2 ⟨List.mem_range.2 (by omega), by simpa using hc⟩
    rw [he] at this
    simp at this
  · obtain ⟨i, hi, rfl⟩ := List.mem_map.1 hq
    obtain ⟨g1, g2⟩ := List.mem_filter.1 hi
    exact hgo i (by have := List.mem_range.1 g1; omega) (by simpa using g2)

/-! ### What reckons with numbers -/

attribute [go_sem_proc] Nat.reduceEqDiff Nat.reduceAdd Nat.reduceLeDiff Nat.reduceBEq Nat.reduceMul Nat.reduceLT Int.reduceLT Int.reduceLE Int.reduceToNat Int.reduceNeg Int.reduceEq Int.reduceMul reduceCtorEq Int.reduceBEq Int.reduceBNe Int.reduceAdd Int.reduceSub
attribute [go_sem_proc ↓] reduceIte

end Go.Ab
