/-
  Steps of a region that asks for an order.
-/
import Derived.Test.YtlhnmpclnbpnhaaS1
namespace Go.Ab
set_option linter.unusedSimpArgs false
set_option linter.unusedVariables false

section
variable {C : Cfg} {P : Program} {F : FI} {k : List Item} {H : Heap} {e : Env} {df : List ADefer} {pn : Option (AV × Bool)} {d : Option Tmp} {t : TypeId} {p : String} {a : Array Edge} {all r : List Oper} {g : Option (Nat × Bool)}

def planK (o : Option (List (Nat × Nat))) (k : List (Nat × Nat) → Option RR) : Option RR :=
  match o with
  | some ps => k ps
  | none => none

@[congr] theorem planK_congr {o o' : Option (List (Nat × Nat))} {k : List (Nat × Nat) → Option RR} (h : o = o') : planK o k = planK o' k := by rw [h]
theorem planK_some {ps : List (Nat × Nat)} {k : List (Nat × Nat) → Option RR} : planK (some ps) k = k ps := rfl

def phK (o : Option Heap) (k : Heap → Option RR) : Option RR :=
  match o with
  | some ps => k ps
  | none => none

@[congr] theorem phK_congr {o o' : Option Heap} {k : Heap → Option RR} (h : o = o') : phK o k = phK o' k := by rw [h]
theorem phK_some {ps : Heap} {k : Heap → Option RR} : phK (some ps) k = k ps := rfl

/-- The table fits the region. -/
def chkK (b : Bool) (s : St) (k : St → Option RR) : Option RR := if b then k s else none

theorem chkK_of {b : Bool} {s : St} {k : St → Option RR} (h : b = true) : chkK b s k = k s := by rw [h]; rfl

@[congr] theorem chkK_congr {b : Bool} {s : St} {k : St → Option RR} : chkK b s k = chkK b s k := rfl

theorem exec_draw {s : St} {id : Nat} {l : List Oper} : execL C P F (.code (.region id l.toArray true) :: k) s = gcK (gcAt C F id s) fun s => regK (drawnL C P F id l.toArray s) (fun s' => execL C P F k s') (fun v s' => unwL C P F (some (v, false)) s') := by
  rw [execL_draw]
  cases gcAt C F id s with
  | none => rfl
  | some s =>
    simp only [gcK_some]
    cases drawnL C P F id l.toArray s with
    | none => rfl
    | some r => cases r <;> rfl

theorem drawn_go {id : Nat} {l : List Oper} : drawnL C P F id l.toArray ⟨e, df, H, pn⟩ = planK (C.plan F.fn id) fun ps => phK (phantoms C l) fun ph =>
    chkK (planOk P l.toArray ps) ⟨e, df, H ++ ph, pn⟩ fun s => dopsL C P F l ps 0 l H.length s [] [] := by
  rw [drawnL_eq]
  simp only [List.toList_toArray]
  cases C.plan F.fn id with
  | none => rfl
  | some ps =>
    simp only [planK_some]
    cases phantoms C l with
    | none => rfl
    | some ph => simp [phK_some, chkK]

def ldsK (o : Option Lds) (k : Lds → Option RR) : Option RR :=
  match o with
  | some x => k x
  | none => none

@[congr] theorem ldsK_congr {o o' : Option Lds} {k : Lds → Option RR} (h : o = o') : ldsK o k = ldsK o' k := by rw [h]
theorem ldsK_some {x : Lds} {k : Lds → Option RR} : ldsK (some x) k = k x := rfl

noncomputable def afterD (C : Cfg) (P : Program) (F : FI) (all : List Oper) (ps : List (Nat × Nat)) (i : Nat) (r : List Oper) (l l' : Nat) (op : Op) (d : Option Tmp) (e : Env) (df : List ADefer) (H : Heap) (pn : Option (AV × Bool)) (lds : Lds) (efs : Efs) : OpR → Option RR
  | .val v H' => if isEff op then dopsL C P F all ps (i + 1) r l' ⟨e.put d v, df, H', pn⟩ lds ((i, (H, H')) :: efs)
      else dopsL C P F all ps (i + 1) r l' ⟨e.put d v, df, H, pn⟩ (addLd i (readOf C e op) lds) efs
  | .call f a c => callK (callVL C P false f a c H none) (fun v H' => dopsL C P F all ps (i + 1) r l' ⟨e.put d v, df, H', pn⟩ lds ((i, (H, H')) :: efs))
      (fun v H' => ldsK (dpan C P F all ps i H (i + 1) r l' (e.put d .undef) lds) fun lds' => if ps.all (pairOk lds' efs) then some (.pan v ⟨panEnv ps i all e, df, H', pn⟩) else none)
  | _ => none

theorem dopsL_op {op : Op} {ps : List (Nat × Nat)} {i l : Nat} {lds : Lds} {efs : Efs} : dopsL C P F all ps i (⟨d, op, t, p, a, none⟩ :: r) l ⟨e, df, H, pn⟩ lds efs =
    stepV (evOpD C P F H e ⟨d, op, t, p, a, none⟩ l) (afterD C P F all ps i r l (if isAlloc op then l + 1 else l) op d e df H pn lds efs) := by
  rw [dopsL_cons]
  simp only [wantedA, nextL]
  cases evOpD C P F H e ⟨d, op, t, p, a, none⟩ l with
  | none => rfl
  | some x =>
    cases x with
    | call f a c =>
      simp only [stepV_some, afterD]
      cases callVL C P false f a c H none with
      | none => rfl
      | some y =>
        obtain ⟨o, _, _⟩ := y
        cases o with
        | ret v => rfl
        | pan v =>
          simp only [callK_pan]
          cases dpan C P F all ps i H (i + 1) r (if isAlloc op = true then l + 1 else l) (e.put d .undef) lds <;> rfl
    | _ => rfl

def dvK (o : Option OpR) (k : AV → Option Lds) : Option Lds :=
  match o with
  | some (.val v _) => k v
  | _ => none

@[congr] theorem dvK_congr {o o' : Option OpR} {k : AV → Option Lds} (h : o = o') : dvK o k = dvK o' k := by rw [h]
theorem dvK_val {v : AV} {H' : Heap} {k : AV → Option Lds} : dvK (some (.val v H')) k = k v := rfl

def guardP (v : AV) (w : Bool) (e : Env) (run skip : Env → Option Lds) : Option Lds :=
  match v with
  | .bool b => if b = w then run e else skip e
  | .tup _ => skip e
  | _ => none

@[congr] theorem guardP_congr {v v' : AV} {w : Bool} {e : Env} {a b : Env → Option Lds} (h : v = v') : guardP v w e a b = guardP v' w e a b := by rw [h]
theorem guardP_tt {a b : Env → Option Lds} : guardP (.bool true) true e a b = a e := rfl
theorem guardP_ff {a b : Env → Option Lds} : guardP (.bool false) false e a b = a e := rfl
theorem guardP_tf {a b : Env → Option Lds} : guardP (.bool true) false e a b = b e := rfl
theorem guardP_ft {a b : Env → Option Lds} : guardP (.bool false) true e a b = b e := rfl
theorem guardP_tup {l : List AV} {w : Bool} {a b : Env → Option Lds} : guardP (.tup l) w e a b = b e := rfl

theorem dpan_nil {ps : List (Nat × Nat)} {i j l : Nat} {lds : Lds} : dpan C P F all ps i H j [] l e lds = some lds := rfl

theorem dpan_op {op : Op} {ps : List (Nat × Nat)} {i j l : Nat} {lds : Lds} : dpan C P F all ps i H j (⟨d, op, t, p, a, none⟩ :: r) l e lds =
    if hasPr ps j (1000 + i) then dpan C P F all ps i H (j + 1) r (if isAlloc op then l + 1 else l) (e.put d .undef) lds
    else if isEff op then none
    else dvK (evOpD C P F H e ⟨d, op, t, p, a, none⟩ l) fun v => dpan C P F all ps i H (j + 1) r (if isAlloc op then l + 1 else l) (e.put d v) (addLd j (readOf C e op) lds) := by
  simp only [dpan, nextL, wantedA]
  split
  · rfl
  · split
    · rfl
    · cases evOpD C P F H e ⟨d, op, t, p, a, none⟩ l with
      | none => rfl
      | some x => cases x <;> rfl

theorem dpan_guard {op : Op} {k : Nat} {w : Bool} {ps : List (Nat × Nat)} {i j l : Nat} {lds : Lds} : dpan C P F all ps i H j (⟨d, op, t, p, a, some (k, w)⟩ :: r) l e lds =
    if hasPr ps j (1000 + i) then dpan C P F all ps i H (j + 1) r (if isAlloc op then l + 1 else l) (e.put d .undef) lds
    else if isEff op then none
    else guardP (e.getO (dstAt all k)) w e (fun e => dpan C P F all ps i H j (⟨d, op, t, p, a, none⟩ :: r) l e lds) (fun e => dpan C P F all ps i H (j + 1) r (if isAlloc op then l + 1 else l) (e.put d (.tup [])) lds) := by
  have hev : evOpD C P F H e ⟨d, op, t, p, a, some (k, w)⟩ l = evOpD C P F H e ⟨d, op, t, p, a, none⟩ l := rfl
  rw [dstAt_eq]
  by_cases h1 : hasPr ps j (1000 + i) = true
  · simp only [dpan, nextL, h1, if_true]
  · by_cases h2 : isEff op = true
    · simp only [dpan, nextL, h1, h2, if_true, if_false]
    · simp only [dpan, nextL, h1, h2, if_false, wantedA]
      cases (all[k]?).bind (·.dst) with
      | none => rfl
      | some q =>
        simp only [Env.getO]
        cases e.get q with
        | bool b =>
          cases hb : b == w with
          | false =>
            have hn : ¬ b = w := by simpa using hb
            simp only [guardP, if_neg hn, hb, Bool.false_eq_true, if_false]
          | true =>
            have hn : b = w := by simpa using hb
            simp only [guardP, if_pos hn, hb, hev, Bool.false_eq_true, if_false]
        | _ => simp only [Bool.false_eq_true, if_false, guardP]

theorem dopsL_guard {op : Op} {j : Nat} {w : Bool} {ps : List (Nat × Nat)} {i l : Nat} {lds : Lds} {efs : Efs} : dopsL C P F all ps i (⟨d, op, t, p, a, some (j, w)⟩ :: r) l ⟨e, df, H, pn⟩ lds efs =
    guardK (e.getO (dstAt all j)) w ⟨e, df, H, pn⟩ (fun s => dopsL C P F all ps i (⟨d, op, t, p, a, none⟩ :: r) l s lds efs) (fun s => dopsL C P F all ps (i + 1) r (if isAlloc op then l + 1 else l) ⟨s.env.put d (.tup []), s.dfr, s.H, s.pan⟩ lds efs) := by
  have hev : evOpD C P F H e ⟨d, op, t, p, a, some (j, w)⟩ l = evOpD C P F H e ⟨d, op, t, p, a, none⟩ l := rfl
  rw [dopsL_cons, dstAt_eq]
  simp only [wantedA, nextL]
  cases (all[j]?).bind (·.dst) with
  | none => rfl
  | some k =>
    simp only [Env.getO]
    cases e.get k with
    | bool b =>
      cases hb : b == w with
      | false =>
        have hn : ¬ b = w := by simpa using hb
        simp only [guardK, if_neg hn, hb]
      | true =>
        have hn : b = w := by simpa using hb
        simp only [guardK, if_pos hn, hb]
        rw [dopsL_cons]
        simp only [wantedA, hev, nextL]
    | _ => rfl

def pairM (e : Option (Heap × Heap)) (l : Option Nat) : Bool :=
  match e with
  | none => true
  | some (a, b) => match l with
    | none => true
    | some l => sameAt a b l

theorem pairOk_eq {lds : Lds} {efs : Efs} {i j : Nat} : pairOk lds efs (i, j) = pairM (getAt efs j) (getAt lds i) := by
  simp only [pairOk, pairM]
  cases getAt lds i <;> cases getAt efs j <;> rfl
theorem pairM_none {l : Option Nat} : pairM none l = true := rfl
theorem pairM_some {a b : Heap} {l : Nat} : pairM (some (a, b)) (some l) = sameAt a b l := rfl
theorem pairM_non {a b : Heap} : pairM (some (a, b)) none = true := rfl

theorem phantoms_nil : phantoms C [] = some [] := rfl

def allocT : Op → Option TypeId
  | .alloc T => some T
  | _ => none

def allocM : Op → Option TypeId
  | .makeMap T none => some T
  | _ => none

def mapObj : TyD → Option AO
  | .map kt _ => some (.map kt [])
  | _ => none

def phM (o : Option AO) (r : Option Heap) : Option Heap :=
  match o, r with
  | some x, some H => some (x :: H)
  | _, _ => none

theorem phM_some {o : AO} {H : Heap} : phM (some o) (some H) = some (o :: H) := rfl
theorem mapObj_map {k v : TypeId} : mapObj (.map k v) = some (.map k []) := rfl

def phC (o : AO) (r : Option Heap) : Option Heap :=
  match r with
  | some H => some (o :: H)
  | none => none

theorem phC_some {o : AO} {H : Heap} : phC o (some H) = some (o :: H) := rfl

theorem phantoms_cons {op : Op} : phantoms C (⟨d, op, t, p, a, g⟩ :: r) = match allocT op with
    | some T => (match C.ty T with
      | some ty => if ty.zeroOk then phC (.box ty.zv) (phantoms C r) else none
      | none => none)
    | none => match allocM op with
      | some T => (match C.ty T with
        | some ty => phM (mapObj ty.d) (phantoms C r)
        | none => none)
      | none => phantoms C r := by
  cases op <;> first | rfl | skip
  case makeMap T m =>
    cases m with
    | some _ => rfl
    | none =>
      simp only [phantoms, allocT, allocM]
      cases C.ty T with
      | none => rfl
      | some ty =>
        obtain ⟨d, s, b, z⟩ := ty
        cases d <;> first | rfl | (simp only [mapObj]; cases phantoms C r <;> rfl)
  rename_i T
  simp only [phantoms, allocT]
  cases C.ty T with
  | none => rfl
  | some ty =>
    simp only
    split
    · cases phantoms C r <;> rfl
    · rfl

end

/-! ### Where a loop stands in a function -/

def firstReg : Code → Option Nat
  | .region id _ _ => some id
  | .seq a _ => firstReg a
  | .block _ c => firstReg c
  | .loop c => firstReg c
  | .scope c => firstReg c
  | _ => none

/-- What is still to be done when the loop whose first region is r begins a round. -/
def todoOf (r : Nat) : Code → List Item → Option (List Item)
  | .seq a b, k => match todoOf r a (.code b :: k) with
    | some x => some x
    | none => todoOf r b k
  | .cond _ a b, k => match todoOf r a k with
    | some x => some x
    | none => todoOf r b k
  | .block id c, k => todoOf r c (.inBlock id :: k)
  | .scope c, k => todoOf r c (.inScope c :: k)
  | .loop c, k => if firstReg c = some r then some (.inLoop c :: k) else todoOf r c (.inLoop c :: k)
  | .rangeFunc _ _ _ b, _ => todoOf r b []
  | _, _ => none

def todoAt (f : Func) (r : Nat) : List Item :=
  match f.body with
  | some c => match todoOf r c [] with
    | some x => x
    | none => []
  | none => []

/-- The loop itself. -/
def loopIt (f : Func) (r : Nat) : Item :=
  match todoAt f r with
  | it :: _ => it
  | [] => .code .skip

/-- What is still to be done when that loop has come to its end. -/
def todoPast (f : Func) (r : Nat) : List Item :=
  match todoAt f r with
  | _ :: .inBlock _ :: k => k
  | _ => []


/-! ### Ranges over functions -/

section
variable {C : Cfg} {P : Program} {k : List Item} {H : Heap} {e : Env} {df : List ADefer} {pn : Option (AV × Bool)} {fn : FuncId} {dfd : Bool} {b l : Nat}

theorem exec_rng {f : Operand} {ps : Array Tmp} {x y : Code} : execL C P ⟨fn, none, dfd, b⟩ (.code (.rangeFunc f ps x y) :: k) ⟨e, df, H, pn⟩ = funcK (opd C e f) fun g first cap =>
    doneK (callVL C P false g (first ++ [.func (.yield (H.length + 1)) [] []]) cap (H ++ [.dfr, .loop ⟨.ready, none, fn, e, ps, x, y, H.length⟩]) none) fun d =>
      endLoopL C P ⟨fn, none, dfd, b⟩ k (H.length + 1) ⟨e, .collected H.length :: df, H, pn⟩ d := exec_range rfl

theorem exec_rng' {f : Operand} {ps : Array Tmp} {x y : Code} {l0 : Nat} : execL C P ⟨fn, some l0, dfd, b⟩ (.code (.rangeFunc f ps x y) :: k) ⟨e, df, H, pn⟩ = funcK (opd C e f) fun g first cap =>
    loopK H[l0]? fun r0 => doneK (callVL C P false g (first ++ [.func (.yield H.length) [] []]) cap (H ++ [.loop ⟨.ready, none, fn, e, ps, x, y, r0.dfr⟩]) none) fun d =>
      endLoopL C P ⟨fn, some l0, dfd, b⟩ k H.length ⟨e, df, H, pn⟩ d := exec_range' rfl

theorem exec_begin : execL C P ⟨fn, some l, dfd, b⟩ (.beginRound :: k) ⟨e, df, H, pn⟩ = loopK H[l]? fun r => if r.state = .ready then execL C P ⟨fn, some l, dfd, b⟩ k ⟨e, df, H.set l (.loop { r with state := .busy }), pn⟩ else none := exec_beginRound rfl

theorem endL_ret {F : FI} {L : Nat} {s : St} {v : AV} {H' : Heap} {q : Option (AV × Bool)} : endLoopL C P F k L s ⟨.ret v, H', q⟩ = loopK H'[L]? fun r => if r.state = .busy then none else
    execL C P F ((r.pending.map Item.code).toList ++ k) ⟨s.env, s.dfr, H'.set L (.loop { r with state := .exhausted }), s.pan⟩ := by
  rw [endLoopL_eq]
  simp only
  cases H'[L]? with
  | none => rfl
  | some o => cases o <;> rfl

theorem endL_pan {F : FI} {L : Nat} {s : St} {v : AV} {H' : Heap} {q : Option (AV × Bool)} : endLoopL C P F k L s ⟨.pan v, H', q⟩ = unwL C P F (some (v, false)) ⟨s.env, s.dfr, H', s.pan⟩ := by
  rw [endLoopL_eq]

theorem leave_round {j : Option Code} : leaveL C P ⟨fn, some l, dfd, b⟩ j ⟨e, df, H, pn⟩ = endRound l j ⟨e, df, H, pn⟩ := by
  rw [leaveL_eq]

theorem leave_none : leaveL C P ⟨fn, none, dfd, b⟩ none ⟨e, df, H, pn⟩ = unwL C P ⟨fn, none, dfd, b⟩ none ⟨e, df, H, pn⟩ := by
  rw [leaveL_eq]

theorem leave_ret : leaveL C P ⟨fn, none, dfd, b⟩ (some .ret) ⟨e, df, H, pn⟩ = unwL C P ⟨fn, none, dfd, b⟩ none ⟨e, df, H, pn⟩ := by
  rw [leaveL_eq]
end

/-- The ranges over functions that stand in a code. -/
def rangesOf : Code → List (Array Tmp × Code × Code)
  | .seq a b => rangesOf a ++ rangesOf b
  | .cond _ a b => rangesOf a ++ rangesOf b
  | .block _ c => rangesOf c
  | .scope c => rangesOf c
  | .loop c => rangesOf c
  | .rangeFunc _ ps a b => [(ps, a, b)]
  | _ => []

/-- The record of the i-th range over a function. -/
def loopRec (f : Func) (id : FuncId) (i : Nat) (e : Env) (d : Nat) : ALoop :=
  match f.body with
  | some c => match (rangesOf c)[i]? with
    | some (ps, a, b) => ⟨.ready, none, id, e, ps, a, b, d⟩
    | none => ⟨.ready, none, id, e, #[], .skip, .skip, d⟩
  | none => ⟨.ready, none, id, e, #[], .skip, .skip, d⟩

/-- How many rounds are gone through, from the j-th on, of m at most. -/
def stopAt (c : Nat → Bool) : Nat → Nat → Nat
  | j, 0 => j
  | j, m + 1 => if c j then stopAt c (j + 1) m else j + 1

theorem lt_irr (n : Nat) : (n < n) = False := by simp
theorem lt_add_f (n k : Nat) : (n + k < n) = False := by simp

theorem fnLt_func {N : Nat} {f : FuncId} : fnLt N (.func f) = true := rfl
theorem fnLt_method {N : Nat} {n : String} : fnLt N (.method n) = true := rfl
theorem fnLt_methodOf {N : Nat} {t : TypeId} {n : String} : fnLt N (.methodOf t n) = true := rfl
theorem fnLt_yield {N l : Nat} : fnLt N (.yield l) = decide (l < N) := rfl


/-! ### What an operation reads -/

section
variable {C : Cfg} {e : Env}

def gslOf : AV → Option Nat
  | .gsl l _ => some l
  | _ => none

def ptrOf : AV → Option Nat
  | .ptr l _ => some l
  | .eptr l _ _ _ => some l
  | _ => none

def ptrO : AV → Option Nat
  | .ptr l _ => some l
  | _ => none

theorem ptrO_ptr {l o : Nat} : ptrO (.ptr l o) = some l := rfl

def mapOf : AV → Option Nat
  | .map l => some l
  | _ => none

theorem gslOf_sl {f : Bool} {es : List AV} : gslOf (.sl f es) = none := rfl
theorem gslOf_ptr {a b : Nat} : gslOf (.ptr a b) = none := rfl
theorem gslOf_gsl {l n : Nat} : gslOf (.gsl l n) = some l := rfl
theorem ptrOf_ptr {l o : Nat} : ptrOf (.ptr l o) = some l := rfl
theorem ptrOf_eptr {l n i o : Nat} : ptrOf (.eptr l n i o) = some l := rfl
theorem ptrOf_vptr {x : AV} {o : Nat} : ptrOf (.vptr x o) = none := rfl
theorem mapOf_map {l : Nat} : mapOf (.map l) = some l := rfl

theorem readOf_load {T : TypeId} {x : Operand} : readOf C e (.load T x) = ptrOf (opd C e x) := by
  simp only [readOf, ptrOf]; cases opd C e x <;> rfl
theorem readOf_lookup {T : TypeId} {m x : Operand} {b : Bool} : readOf C e (.lookup T m x b) = mapOf (opd C e m) := by
  simp only [readOf, mapOf]; cases opd C e m <;> rfl
theorem readOf_indexAddr {T : TypeId} {x i : Operand} : readOf C e (.indexAddr T x i) = gslOf (opd C e x) := by
  simp only [readOf, gslOf]; cases opd C e x <;> rfl
theorem readOf_fieldAddr {T : TypeId} {x : Operand} {i : Nat} : readOf C e (.fieldAddr T x i) = match C.ty T with
    | some ⟨.struct fs, _, _, _⟩ => match fs[i]? with
      | some (_, ft) => match C.ty ft with
        | some fy => if fy.size = 0 then ptrO (opd C e x) else none
        | none => none
      | none => none
    | _ => none := by
  simp only [readOf]
  split
  · split
    · split
      · split
        · cases opd C e x <;> simp_all [ptrO]
        · simp_all
      · simp_all
    · simp_all
  · simp_all

theorem readOf_move {x : Operand} : readOf C e (.move x) = none := rfl
theorem readOf_assign {x : Operand} : readOf C e (.assign x) = none := rfl
theorem readOf_pick {x y z : Operand} : readOf C e (.pick x y z) = none := rfl
theorem readOf_alloc {T : TypeId} : readOf C e (.alloc T) = none := rfl
theorem readOf_build {T : TypeId} {ps : Array (Nat × Operand)} : readOf C e (.build T ps) = none := rfl
theorem readOf_buildSlice {T : TypeId} {n : Nat} {ps : Array (Nat × Operand)} : readOf C e (.buildSlice T n ps) = none := rfl
theorem readOf_nilCheck {x : Operand} : readOf C e (.nilCheck x) = none := rfl
theorem readOf_bin {o : BinOp} {T T2 : TypeId} {x y : Operand} : readOf C e (.binOp o T x y T2) = none := rfl
theorem readOf_un {o : UnOp} {T : TypeId} {x : Operand} : readOf C e (.unOp o T x) = none := rfl
theorem readOf_convert {T T2 : TypeId} {x : Operand} : readOf C e (.convert T T2 x) = none := rfl
theorem readOf_makeInterface {T : TypeId} {x : Operand} : readOf C e (.makeInterface T x) = none := rfl
theorem readOf_makeFunc {f : Fn} {x y : Array Operand} : readOf C e (.makeFunc f x y) = none := rfl
theorem readOf_slice {T : TypeId} {x : Operand} {l h m : Option Operand} : readOf C e (.slice T x l h m) = none := rfl
theorem readOf_field {T : TypeId} {x : Operand} {i : Nat} : readOf C e (.field T x i) = none := rfl
theorem readOf_index {T : TypeId} {x i : Operand} : readOf C e (.index T x i) = none := rfl
theorem readOf_typeAssert {x : Operand} {S T : TypeId} {b : Bool} : readOf C e (.typeAssert x S T b) = none := rfl
theorem readOf_extract {x : Operand} {i : Nat} : readOf C e (.extract x i) = none := rfl
theorem readOf_call {c : Call} : readOf C e (.call c) = none := rfl

theorem ptrOf_elA {H : Heap} {sz : Nat} {v : AV} {xs : List AV} {k : Int} {off : Nat} (h : SlOk H sz v xs) : ptrOf (elA v k off) = gslOf v := by
  obtain ⟨h1, _⟩ := h
  cases v <;> simp only at h1 <;> rfl

/-- The object of a slice, if it has one. -/
theorem SlOk.obj {H : Heap} {sz : Nat} {v : AV} {xs : List AV} (h : SlOk H sz v xs) : gslOf v = none ∨ ∃ l, gslOf v = some l ∧ l < H.length ∧ H[l]? = some (.grow sz xs) := by
  obtain ⟨h1, _⟩ := h
  cases v <;> simp only at h1
  · exact .inl rfl
  · exact .inr ⟨_, rfl, (List.getElem?_eq_some_iff.1 h1.1).1, h1.1⟩
end

theorem le_maxA (n : Nat) : (n ≤ maxLenA) = (n ≤ 1048576) := propext ⟨fun h => h, fun h => h⟩
theorem le_maxAI (n : Int) : (n ≤ ((maxLenA : Nat) : Int)) = (n ≤ 1048576) := propext ⟨fun h => h, fun h => h⟩

/-! The base list of a symbolic run. -/
attribute [go_sem] execL_nil execL_seq exec_region execL_ret execL_skip execL_inBlock execL_inScope execL_label execL_block execL_loop execL_scope
exec_cond exec_exit exec_goto condK_t condK_f jumpK_some jumpK_none gcAt gcK_some regK_ok regK_pan opsL_op opsL_guard opsL_nil stepV_some afterOp
callK_ret callK_pan guardK_tt guardK_ff guardK_tf guardK_ft guardK_tup dstAt Env.getO doneK_some exec_draw drawn_go planK_some phK_some dopsL_op
dopsL_guard dopsL_nil afterD ldsK_some dvK_val guardP_tt guardP_ff guardP_tf guardP_ft guardP_tup dpan_nil dpan_op dpan_guard hasPr panEnv badT
Option.some_beq_some Bool.or_self List.filter_cons List.filter_nil evOpD phantoms_nil phantoms_cons allocT allocM phM_some mapObj_map phC_some isAlloc isEff ptrO_ptr gslOf_sl
gslOf_gsl gslOf_ptr opdP_mk partOk_mk ptrOf_ptr ptrOf_eptr ptrOf_vptr mapOf_map readOf_load readOf_lookup readOf_indexAddr readOf_fieldAddr readOf_move readOf_assign readOf_pick
readOf_alloc readOf_build readOf_buildSlice readOf_nilCheck readOf_bin readOf_un readOf_convert readOf_makeInterface readOf_makeFunc readOf_slice
readOf_field readOf_index readOf_typeAssert readOf_extract readOf_call addLd List.all_nil List.all_cons pairOk_eq pairM_none pairM_some pairM_non
getAt sameAt AO.same AV.same_refl sameL_refl ev_move ev_assign ev_bin ev_un ev_pick ev_alloc ev_box ev_build ev_buildSlice ev_load ev_store growA_tmp
ev_nilCheck ev_convert ev_makeInterface ev_makeFunc ev_makeMap ev_makeSlice ev_slice ev_fieldAddr ev_field ev_indexAddr ev_index ev_lookup
ev_mapUpdate ev_typeAssert ev_extract ev_call ev_defer ev_panic evCallee evBuiltin evLen_sl evLen_gsl evUn evBin evNilS isConst mapV mapH opd Env.get
Env.put Env.ofArgs ofConst ofScalar Bool.false_eq_true Bool.true_eq_false Bool.not_true Bool.not_false Bool.and_true Bool.true_and Bool.and_false
Bool.false_and Bool.or_true Bool.or_false Option.getD_some Option.getD_none Option.map_some Option.map_none Option.isNone_none List.getElem?_cons_zero
List.getElem?_cons_succ List.map_cons List.map_nil List.cons_append List.nil_append List.append_nil List.append_assoc List.length_cons List.length_nil
List.length_append exec_rng exec_rng' exec_begin endL_ret endL_pan leave_round leave_none leave_ret funcK_func loopK_loop endRound callV_yield
unwL_collected Env.params List.size_toArray List.toList_toArray Option.toList_none Option.toList_some Option.isNone_some unwL_nil unw_fn readRes
packRes callVL_func callVL_method get_at get_at' set_at set_at' List.set_cons_zero List.set_cons_succ evLoad_ptr evLoad_vptr evLoad_eptr evStore_ptr
evStore_eptr storeObj readPart writePart splice cells_int cells_bool cells_nilp cells_ptr cells_eptr cells_vptr cells_sl cells_gsl cells_map
cells_nilmap cells_func cells_nilFunc cells_iface cells_nilIface cells_agg scalar_int scalar_bool scalar_nilp scalar_ptr scalar_eptr scalar_vptr
scalar_sl scalar_gsl scalar_map scalar_nilmap scalar_func scalar_nilFunc scalar_iface scalar_nilIface scalar_agg stored_int stored_bool stored_nilp
stored_ptr stored_eptr stored_vptr stored_sl stored_gsl stored_map stored_nilmap stored_func stored_nilFunc stored_iface stored_nilIface stored_agg
withCells_agg withCells_int withCells_bool withCells_ptr withCells_nilp withCells_sl withCells_gsl withCells_func withCells_nilFunc withCells_map
withCells_nilmap withCells_iface withCells_nilIface AV.lt ltL AO.lt mapLt allScalar elemOk elemsOk addOff_ptr addOff_eptr addOff_vptr Ty.agg Ty.zeroOk
Ty.zv fillA fieldPlaces setParts elems_sl elems_gsl sliceElem eqFit fits isNilSl evAppend le_maxA le_maxAI List.set_set get_atS get_atS' set_atS
set_atS' take_atS drop_atS drop_S noYield exitTo beq_self_eq_true bne_self_eq_false decide_true decide_false Nat.add_zero Nat.zero_add Nat.add_assoc
List.take_succ_cons List.take_zero List.drop_succ_cons List.drop_zero List.take_nil List.drop_nil Nat.le_refl decide_eq_true_eq finishC sealT sealV sealG
List.take_left List.take_length and_self List.isEmpty_nil List.isEmpty_cons Bool.true_or Bool.false_or take_set take_setB List.take_length_add_append
Nat.lt_add_right_iff_pos Nat.add_lt_add_iff_left List.drop_left List.drop_length List.replicate_succ List.replicate_zero Int.cast_ofNat_Int gt_iff_lt
ge_iff_le lt_irr lt_add_f fnLt_func fnLt_method fnLt_methodOf fnLt_yield

end Go.Ab
