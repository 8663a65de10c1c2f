/-
  A wring of which more, or something else, is known: which ones.
-/
import Derived.Test.YteeefmibaggekaaKK7
import Derived.Test.YteeefmibaggekaaKK5
namespace Go.Ab
open Go.Proofs
set_option linter.unusedSimpArgs false
set_option linter.unusedVariables false
set_option maxRecDepth 100000
set_option maxHeartbeats 2000000

variable {H : Heap}


def Bk.setF (b : Bk) (k : Nat) (f : Fc) : Bk := if k = 0 then { b with f0 := f } else { b with f1 := f }
theorem setF_fc (b : Bk) (k : Nat) (f : Fc) (i : Nat) (hk : k ≤ 1) (hi : i ≤ 1) : (b.setF k f).fc i = if k = i then f else b.fc i := by
  have h1 : k = 0 ∨ k = 1 := by omega
  have h2 : i = 0 ∨ i = 1 := by omega
  rcases h1 with rfl | rfl <;> rcases h2 with rfl | rfl <;> rfl

/-- A wring with another face. -/
def Wg.setF (w : Wg) (i k : Nat) (f : Fc) : Wg := { w with bs := w.bs.set i ((w.b i).setF k f) }

theorem setF_b (w : Wg) {i k j : Nat} {f : Fc} (hj : j < w.n) : (w.setF i k f).b j = if i = j then (w.b i).setF k f else w.b j := by
  simp only [Wg.n] at hj
  simp only [Wg.setF, Wg.b, List.getD_eq_getElem?_getD, List.getElem?_set]
  by_cases e : i = j
  · subst e; simp [hj]
  · simp [e]

theorem setF_fc2 (w : Wg) {i k j q : Nat} {f : Fc} (hj : j < w.n) (hk : k ≤ 1) (hq : q ≤ 1) : ((w.setF i k f).b j).fc q = if i = j ∧ k = q then f else (w.b j).fc q := by
  rw [setF_b w hj]
  by_cases e : i = j
  · subst e
    rw [if_pos rfl, setF_fc _ _ _ _ hk hq]
    by_cases e2 : k = q <;> simp [e2]
  · rw [if_neg e, if_neg (by simp [e])]

theorem setF_n (w : Wg) (i k : Nat) (f : Fc) : (w.setF i k f).bs.length = w.bs.length := List.length_set ..

theorem fc_ok {w : Wg} (ho : w.Ok) {j q : Nat} (hj : j < w.n) : ((w.b j).fc q).Ok := by
  simp only [Bk.fc]; split
  · exact ho.f0 j hj
  · exact ho.f1 j hj

theorem setF_ok {w : Wg} (ho : w.Ok) {i k : Nat} {f : Fc} (hk : k ≤ 1) (hf : f.Ok) : (w.setF i k f).Ok where
  n := by rw [Wg.n, setF_n]; exact ho.n
  np := ho.np
  sp j hj := by
    rw [Wg.n, setF_n] at hj
    rw [setF_b w hj]
    split
    · rename_i e
      subst e
      have := ho.sp i hj
      simp only [Bk.setF]
      split <;> exact this
    · exact ho.sp j hj
  f0 j hj := by
    rw [Wg.n, setF_n] at hj
    have h := setF_fc2 w (i := i) (k := k) (f := f) (q := 0) hj hk (by omega)
    have e : ((w.setF i k f).b j).f0 = ((w.setF i k f).b j).fc 0 := rfl
    rw [e, h]
    split
    · exact hf
    · exact ho.f0 j hj
  f1 j hj := by
    rw [Wg.n, setF_n] at hj
    have h := setF_fc2 w (i := i) (k := k) (f := f) (q := 1) hj hk (by omega)
    have e : ((w.setF i k f).b j).f1 = ((w.setF i k f).b j).fc 1 := rfl
    rw [e, h]
    split
    · exact hf
    · exact ho.f1 j hj
  ap j hj := by
    rw [Wg.n, setF_n]
    exact ho.ap j hj

theorem pok_len {w x : Wg} (h : x.bs.length = w.bs.length) {y : Pc} (hp : w.pok y) : x.pok y := by
  simp only [Wg.pok, Wg.n] at hp ⊢; rw [h]; exact hp

/-- A place's face, in a wring with another face. -/
theorem setF_fa (w : Wg) {i k : Nat} {f : Fc} (hk : k ≤ 1) {y : Pc} (hp : w.pok y) : (w.setF i k f).fa y = (if i = y.b.toNat ∧ k = y.u.toNat then f else w.fa y) ∧ (w.setF i k f).fb y = (if i = y.b.toNat ∧ k = 1 - y.u.toNat then f else w.fb y) := by
  obtain ⟨h1, h2, h3, h4⟩ := hp
  simp only [Wg.fa, Wg.fb]
  exact ⟨setF_fc2 w (by omega) hk (by omega), setF_fc2 w (by omega) hk (by omega)⟩

/-- A face that is better known. -/
theorem setF_sub {w : Wg} (i k : Nat) (f : Fc) (hk : k ≤ 1) (hf : f.st ≤ ((w.b i).fc k).st) : Sub w (w.setF i k f) (fun y => y) where
  n := setF_n ..
  pok y hy := pok_len (setF_n ..) hy
  b y z _ _ h := h
  inj y z _ _ h := h
  jt b y z hy hz h := by
    obtain ⟨a1, _⟩ := setF_fa w (i := i) (f := f) hk hy
    obtain ⟨_, a2⟩ := setF_fa w (i := i) (f := f) hk hz
    have hap : (w.setF i k f).ap y.b z.b = w.ap y.b z.b := rfl
    obtain ⟨h1, h2, h3⟩ := jtz.1 h
    refine jtz.2 ⟨by rw [hap]; exact h1, ?_, ?_⟩
    · rw [a1]
      split
      · rename_i e
        simp only [Wg.fa, ← e.1, ← e.2] at h2
        omega
      · exact h2
    · rw [a2]
      split
      · rename_i e
        simp only [Wg.fb, ← e.1, ← e.2] at h3
        omega
      · exact h3

/-- A pair less in Apart. -/
def Wg.less (w : Wg) (i : Nat) : Wg := { w with ps := w.ps.take i ++ w.ps.drop (i + 1) }

theorem less_mem {w : Wg} {i : Nat} {a : Ap} (h : a ∈ (w.less i).ps) : a ∈ w.ps := by
  rcases List.mem_append.1 h with h | h
  · exact List.mem_of_mem_take h
  · exact List.mem_of_mem_drop h

theorem ps_ok {w : Wg} (ho : w.Ok) {a : Ap} (h : a ∈ w.ps) : 0 ≤ a.a ∧ a.a < w.n ∧ 0 ≤ a.b ∧ a.b < w.n ∧ a.a ≠ a.b := by
  obtain ⟨i, hi, rfl⟩ := List.mem_iff_getElem.1 h
  have := ho.ap i hi
  simpa [Wg.a, hi] using this

theorem less_ok {w : Wg} (ho : w.Ok) (i : Nat) : (w.less i).Ok where
  n := ho.n
  np := by
    have := ho.np
    simp only [Wg.less, List.length_append, List.length_take, List.length_drop]
    omega
  sp := ho.sp
  f0 := ho.f0
  f1 := ho.f1
  ap j hj := by
    have hm : (w.less i).a j ∈ (w.less i).ps := by simp [Wg.a, hj]
    exact ps_ok ho (less_mem hm)

theorem less_sub (w : Wg) (i : Nat) : Sub w (w.less i) (fun y => y) where
  n := rfl
  pok y hy := hy
  b y z _ _ h := h
  inj y z _ _ h := h
  jt b y z hy hz h := by
    obtain ⟨h1, h2, h3⟩ := jtz.1 h
    refine jtz.2 ⟨?_, h2, h3⟩
    simp only [Wg.ap, List.any_eq_false] at h1 ⊢
    exact fun a ha => h1 a (less_mem ha)

/-! ### Upside down, and numbered from the other end -/

def Bk.flip (b : Bk) : Bk := { b with f0 := b.f1, f1 := b.f0 }
def Wg.mir (w : Wg) : Wg := ⟨(List.range w.n).map fun i => (w.b (w.n - 1 - i)).flip, w.ps.map fun a => ⟨(w.n : Int) - 1 - a.b, (w.n : Int) - 1 - a.a⟩⟩
def mirP (n : Nat) (x : Pc) : Pc := ⟨(n : Int) - 1 - x.b, 1 - x.u⟩

theorem mir_n (w : Wg) : w.mir.bs.length = w.bs.length := by simp [Wg.mir]
theorem mir_b (w : Wg) {j : Nat} (hj : j < w.n) : w.mir.b j = (w.b (w.n - 1 - j)).flip := by
  simp only [Wg.mir, Wg.b, List.getD_eq_getElem?_getD]
  simp [hj]

theorem flip_fc (b : Bk) {k : Nat} (hk : k ≤ 1) : b.flip.fc (1 - k) = b.fc k := by
  have h1 : k = 0 ∨ k = 1 := by omega
  rcases h1 with rfl | rfl <;> rfl

theorem mir_pok {w : Wg} {y : Pc} (h : w.pok y) : w.mir.pok (mirP w.n y) := by
  simp only [Wg.pok, Wg.n, mirP, mir_n] at h ⊢; omega

theorem mir_fa {w : Wg} {y : Pc} (h : w.pok y) : w.mir.fa (mirP w.n y) = w.fa y ∧ w.mir.fb (mirP w.n y) = w.fb y := by
  obtain ⟨h1, h2, h3, h4⟩ := h
  have e1 : (mirP w.n y).b.toNat = w.n - 1 - y.b.toNat := by simp only [mirP]; omega
  have e2 : (mirP w.n y).u.toNat = 1 - y.u.toNat := by simp only [mirP]; omega
  have e3 : w.n - 1 - (w.n - 1 - y.b.toNat) = y.b.toNat := by omega
  simp only [Wg.fa, Wg.fb, e1, e2]
  rw [mir_b w (by omega), e3, flip_fc _ (by omega)]
  refine ⟨rfl, ?_⟩
  have := flip_fc (w.b y.b.toNat) (k := 1 - y.u.toNat) (by omega)
  exact this

theorem mir_ap {w : Wg} (y z : Int) : w.mir.ap ((w.n : Int) - 1 - y) ((w.n : Int) - 1 - z) = w.ap y z := by
  simp only [Wg.ap, Wg.mir, List.any_map]
  congr 1
  funext a
  simp only [Function.comp, apE]
  have e : ∀ p q : Int, ((w.n : Int) - 1 - p == (w.n : Int) - 1 - q) = (p == q) := fun p q => by
    rw [Bool.eq_iff_iff]; simp only [beq_iff_eq]; omega
  rw [e, e, e, e, Bool.or_comm, Bool.and_comm]
  try rfl

theorem mir_jt {w : Wg} {b : Bool} {y z : Pc} (hy : w.pok y) (hz : w.pok z) : w.mir.jt b (mirP w.n y) (mirP w.n z) = w.jt b y z := by
  simp only [Wg.jt, (mir_fa hy).1, (mir_fa hz).2]
  have : w.mir.ap (mirP w.n y).b (mirP w.n z).b = w.ap y.b z.b := mir_ap y.b z.b
  rw [this]

theorem mir_sub (w : Wg) : Sub w w.mir (mirP w.n) where
  n := mir_n w
  pok y hy := mir_pok hy
  b y z _ _ h := by simp only [mirP] at h; omega
  inj y z _ _ h := by
    cases y; cases z
    simp only [mirP, Pc.mk.injEq] at h ⊢
    omega
  jt b y z hy hz h := by rw [mir_jt hy hz]; exact h

theorem mirP_mirP (n : Nat) (y : Pc) : mirP n (mirP n y) = y := by
  cases y
  simp only [mirP, Pc.mk.injEq]
  omega

theorem mir_back (w : Wg) {y : Pc} (h : w.mir.pok y) : w.pok (mirP w.n y) := by
  simp only [Wg.pok, Wg.n, mirP, mir_n] at h ⊢; omega

theorem mir_sub' (w : Wg) : Sub w.mir w (mirP w.n) where
  n := (mir_n w).symm
  pok y hy := mir_back w hy
  b y z _ _ h := by simp only [mirP] at h; omega
  inj y z _ _ h := by
    cases y; cases z
    simp only [mirP, Pc.mk.injEq] at h ⊢
    omega
  jt b y z hy hz h := by
    have := mir_jt (w := w) (b := b) (mir_back w hy) (mir_back w hz)
    rw [mirP_mirP, mirP_mirP] at this
    rw [← this]; exact h

theorem mir_ok {w : Wg} (ho : w.Ok) : w.mir.Ok where
  n := by rw [Wg.n, mir_n]; exact ho.n
  np := by simp only [Wg.mir, List.length_map]; exact ho.np
  sp j hj := by
    rw [Wg.n, mir_n] at hj
    rw [mir_b w hj]
    exact ho.sp (w.n - 1 - j) (by simp only [Wg.n] at *; omega)
  f0 j hj := by
    rw [Wg.n, mir_n] at hj
    rw [mir_b w hj]
    exact ho.f1 (w.n - 1 - j) (by simp only [Wg.n] at *; omega)
  f1 j hj := by
    rw [Wg.n, mir_n] at hj
    rw [mir_b w hj]
    exact ho.f0 (w.n - 1 - j) (by simp only [Wg.n] at *; omega)
  ap j hj := by
    have hm : w.mir.a j ∈ w.mir.ps := by simp [Wg.a, hj]
    obtain ⟨a, ha, e⟩ := List.mem_map.1 hm
    have := ps_ok ho ha
    rw [← e]
    simp only [Wg.n, mir_n] at this ⊢
    omega

end Go.Ab
/-
  More is known, and what is told then.
-/
namespace Go.Ab
open Go.Proofs
set_option linter.unusedSimpArgs false
set_option linter.unusedVariables false
set_option maxRecDepth 100000
set_option maxHeartbeats 2000000

variable {H : Heap}


theorem Sub.hop {w x : Wg} {m : Pc → Pc} (h : Sub w x m) (ho : w.Ok) (hx : x.Ok) : w.hope.1 ≤ x.hope.1 ∧ w.hope.2 = 0 ∧ x.hope.2 = 0 := by
  have hv := w.valid_iff.2 ho
  have hxv := x.valid_iff.2 hx
  have c0 := h.can ho hx (b := false)
  have c1 := h.can ho hx (b := true)
  simp only [Wg.hope, hv, hxv, if_true]
  cases a0 : w.can false
  · cases a1 : w.can true
    · cases x.can false <;> cases x.can true <;> simp
    · rw [c1 a1]
      cases x.can false <;> simp
  · rw [c0 a0]; simp

theorem Sub.hol {w x : Wg} (h : Sub w x (fun y => y)) (ho : w.Ok) (hx : x.Ok) {l : List Pc} (hs : w.stk l = true) : (w.holds l).1 ≤ (x.holds l).1 ∧ (w.holds l).2 = 0 ∧ (x.holds l).2 = 0 := by
  have hv := w.valid_iff.2 ho
  have hxv := x.valid_iff.2 hx
  have e : l.map (fun y => y) = l := List.map_id' l
  have hsx := h.stk hs
  have c0 := fun hh => h.hld hs (b := false) hh
  have c1 := fun hh => h.hld hs (b := true) hh
  rw [e] at hsx c0 c1
  rw [holds_is hv hs, holds_is hxv hsx]
  cases a0 : w.hld false l
  · cases a1 : w.hld true l
    · cases x.hld false l <;> cases x.hld true l <;> simp
    · rw [c1 a1]
      cases x.hld false l <;> simp
  · rw [c0 a0]; simp

theorem Sub.cou {w x : Wg} {m : Pc → Pc} (h : Sub w x m) (ho : w.Ok) (hx : x.Ok) : w.count.1 ≤ x.count.1 ∧ w.count.2 = 0 ∧ x.count.2 = 0 := by
  have hv := w.valid_iff.2 ho
  have hxv := x.valid_iff.2 hx
  simp only [Wg.count, hv, hxv, if_true]
  exact ⟨h.count ho hx false, trivial, trivial⟩

theorem Sub.mos {w x : Wg} {m : Pc → Pc} (h : Sub w x m) (ho : w.Ok) (hx : x.Ok) : w.most.1 ≤ x.most.1 ∧ w.most.2.2 = 0 ∧ x.most.2.2 = 0 := by
  have hv := w.valid_iff.2 ho
  have hxv := x.valid_iff.2 hx
  refine ⟨h.most ho hx, ?_, ?_⟩ <;> simp only [Wg.most, hv, hxv, if_true]

/-- Two wrings in which as much can lie, of which one has no more film. -/
theorem Sub.bes {w x : Wg} {m k : Pc → Pc} (h : Sub w x m) (h' : Sub x w k) (ho : w.Ok) (hx : x.Ok) (hf : ∀ y z, w.pok y → w.pok z → (x.fa (m y)).hi + (x.fb (m z)).hi ≤ (w.fa y).hi + (w.fb z).hi) : x.best.1 ≤ w.best.1 ∧ x.best.2.2 = w.best.2.2 := by
  cases hc : w.can false
  · have hcx : x.can false = false := by
      cases hx2 : x.can false
      · rfl
      · have := h'.can hx ho hx2; rw [hc] at this; cases this
    rw [best_no ho hc, best_no hx hcx]
    exact ⟨Int.le_refl _, rfl⟩
  · have hcx := h.can ho hx hc
    obtain ⟨e1, -⟩ := best_is ho hc
    obtain ⟨e2, -⟩ := best_is hx hcx
    rw [e1, e2]
    exact ⟨h.film ho hx hf (by simpa [Wg.can] using hc), rfl⟩


/-! ### A rougher face -/

/-- The face, rougher by one; the face, better known by one. -/
def rgF (f : Fc) : Fc := ⟨f.lo, if f.hi + 1 < 5 then f.hi + 1 else 5, f.st⟩
def btF (f : Fc) : Fc := ⟨f.lo, f.hi, if 0 < f.st - 1 then f.st - 1 else 0⟩

theorem rgF_ok {f : Fc} (h : f.Ok) : (rgF f).Ok ∧ f.hi ≤ (rgF f).hi := by
  have h1 := h.sp
  have h2 := h.st
  refine ⟨⟨?_, h2⟩, ?_⟩
  · simp only [rgF]; split <;> omega
  · simp only [rgF]; split <;> omega

theorem btF_ok {f : Fc} (h : f.Ok) : (btF f).Ok ∧ (btF f).st ≤ f.st := by
  have h1 := h.sp
  have h2 := h.st
  refine ⟨⟨h1, ?_⟩, ?_⟩
  · simp only [btF]; split <;> omega
  · simp only [btF]; split <;> omega

/-- A wring with a rougher face. -/
def Wg.rg (w : Wg) (i k : Nat) : Wg := w.setF i k (rgF ((w.b i).fc k))

theorem rg_ok {w : Wg} (ho : w.Ok) {i k : Nat} (hi : i < w.n) (hk : k ≤ 1) : (w.rg i k).Ok := setF_ok ho hk (rgF_ok (fc_ok ho hi)).1

theorem rg_fa {w : Wg} (ho : w.Ok) {i k : Nat} (hi : i < w.n) (hk : k ≤ 1) {y : Pc} (hy : w.pok y) :
    (((w.rg i k).fa y).lo = (w.fa y).lo ∧ (w.fa y).hi ≤ ((w.rg i k).fa y).hi ∧ ((w.rg i k).fa y).st = (w.fa y).st) ∧ (((w.rg i k).fb y).lo = (w.fb y).lo ∧ (w.fb y).hi ≤ ((w.rg i k).fb y).hi ∧ ((w.rg i k).fb y).st = (w.fb y).st) := by
  obtain ⟨a1, a2⟩ := setF_fa w (i := i) (f := rgF ((w.b i).fc k)) hk hy
  have hr := (rgF_ok (fc_ok ho (j := i) (q := k) hi)).2
  constructor
  · simp only [Wg.rg]
    rw [a1]
    split
    · rename_i e
      simp only [Wg.fa, ← e.1, ← e.2]
      exact ⟨rfl, hr, rfl⟩
    · exact ⟨rfl, Int.le_refl _, rfl⟩
  · simp only [Wg.rg]
    rw [a2]
    split
    · rename_i e
      simp only [Wg.fb, ← e.1, ← e.2]
      exact ⟨rfl, hr, rfl⟩
    · exact ⟨rfl, Int.le_refl _, rfl⟩

theorem rg_sub {w : Wg} (ho : w.Ok) {i k : Nat} (hi : i < w.n) (hk : k ≤ 1) : Sub w (w.rg i k) (fun y => y) := setF_sub i k _ hk (Int.le_refl _)

theorem rg_sub' {w : Wg} (ho : w.Ok) {i k : Nat} (hi : i < w.n) (hk : k ≤ 1) : Sub (w.rg i k) w (fun y => y) where
  n := (setF_n ..).symm
  pok y hy := pok_len (setF_n ..).symm hy
  b y z _ _ h := h
  inj y z _ _ h := h
  jt b y z hy hz h := by
    have hy' : w.pok y := pok_len (setF_n ..).symm hy
    have hz' : w.pok z := pok_len (setF_n ..).symm hz
    obtain ⟨h1, h2, h3⟩ := jtz.1 h
    rw [(rg_fa ho hi hk hy').1.2.2] at h2
    rw [(rg_fa ho hi hk hz').2.2.2] at h3
    exact jtz.2 ⟨h1, h2, h3⟩

theorem rg_best {w : Wg} (ho : w.Ok) {i k : Nat} (hi : i < w.n) (hk : k ≤ 1) : w.best.1 ≤ (w.rg i k).best.1 ∧ w.best.2.2 = (w.rg i k).best.2.2 :=
  (rg_sub' ho hi hk).bes (rg_sub ho hi hk) (rg_ok ho hi hk) ho (fun y z hy hz => by
    have hy' : w.pok y := pok_len (setF_n ..).symm hy
    have hz' : w.pok z := pok_len (setF_n ..).symm hz
    have h1 := (rg_fa ho hi hk hy').1.2.1
    have h2 := (rg_fa ho hi hk hz').2.2.1
    show (w.fa y).hi + (w.fb z).hi ≤ _
    omega)

theorem sum_appR (a b : List (Int × Int)) : sum1 (a ++ b) = sum1 a + sum1 b ∧ sum2 (a ++ b) = sum2 a + sum2 b := by
  simp only [sum1, sum2, List.map_append, List.sum_append, and_self]

theorem rg_lenF {w : Wg} (ho : w.Ok) {i k : Nat} (hi : i < w.n) (hk : k ≤ 1) {l : List Pc} (hp : w.poks l) : ∀ (q j : Nat), j + q = l.length → sum1 ((w.rg i k).lenF l j q) = sum1 (w.lenF l j q) ∧ sum2 (w.lenF l j q) ≤ sum2 ((w.rg i k).lenF l j q)
  | 0, j, _ => ⟨rfl, Int.le_refl _⟩
  | q + 1, j, hj => by
    obtain ⟨i1, i2⟩ := rg_lenF ho hi hk hp q (j + 1) (by omega)
    simp only [Wg.lenF]
    rw [(sum_appR _ _).1, (sum_appR _ _).1, (sum_appR _ _).2, (sum_appR _ _).2, i1]
    have hb : ((w.rg i k).b (pcA l j).b.toNat).lo = (w.b (pcA l j).b.toNat).lo ∧ ((w.rg i k).b (pcA l j).b.toNat).hi = (w.b (pcA l j).b.toNat).hi := by
      have hpj := hp j (by omega)
      simp only [Wg.rg]
      rw [setF_b w (by have := hpj.1; have := hpj.2.1; omega)]
      split
      · rename_i e
        rw [← e]
        simp only [Bk.setF]
        split <;> exact ⟨rfl, rfl⟩
      · exact ⟨rfl, rfl⟩
    have key : sum1 ((w.rg i k).lenAt l j) = sum1 (w.lenAt l j) ∧ sum2 (w.lenAt l j) ≤ sum2 ((w.rg i k).lenAt l j) := by
      simp only [Wg.lenAt, hb.1, hb.2]
      by_cases h0 : j = 0
      · simp only [if_pos h0]; exact ⟨trivial, Int.le_refl _⟩
      · simp only [if_neg h0]
        have a := (rg_fa ho hi hk (hp (j - 1) (by omega))).1
        have c := (rg_fa ho hi hk (hp j (by omega))).2
        simp only [sum1, sum2, List.map_cons, List.map_nil, List.sum_cons, List.sum_nil]
        omega
    omega

theorem rg_length {w : Wg} (ho : w.Ok) {i k : Nat} (hi : i < w.n) (hk : k ≤ 1) {l : List Pc} (hs : w.stk l = true) : (w.length l).2 = 0 ∧ ((w.rg i k).length l).2 = 0 ∧ ((w.rg i k).length l).1.1 = (w.length l).1.1 ∧ (w.length l).1.2 ≤ ((w.rg i k).length l).1.2 := by
  have hv := w.valid_iff.2 ho
  have hxv := (w.rg i k).valid_iff.2 (rg_ok ho hi hk)
  have e : l.map (fun y => y) = l := List.map_id' l
  have hs2 := (rg_sub ho hi hk).stk hs
  rw [e] at hs2
  obtain ⟨h1, h2⟩ := rg_lenF ho hi hk (stk_pok hs).1 l.length 0 (by omega)
  simp only [Wg.length, hv, hxv, hs, hs2, if_true]
  exact ⟨trivial, trivial, h1, h2⟩

/-- A wring with a face that is better known, or a pair less. -/
def Wg.btr (w : Wg) (i k : Nat) : Wg := w.setF i k (btF ((w.b i).fc k))
theorem btr_ok {w : Wg} (ho : w.Ok) {i k : Nat} (hi : i < w.n) (hk : k ≤ 1) : (w.btr i k).Ok := setF_ok ho hk (btF_ok (fc_ok ho hi)).1
theorem btr_sub {w : Wg} (ho : w.Ok) {i k : Nat} (hi : i < w.n) (hk : k ≤ 1) : Sub w (w.btr i k) (fun y => y) := setF_sub i k _ hk (btF_ok (fc_ok ho hi)).2

/-- What is told of the wring that is numbered from the other end. -/
theorem mir_told {w : Wg} (ho : w.Ok) : w.mir.best.1 = w.best.1 ∧ w.mir.best.2.2 = w.best.2.2 ∧ w.mir.count = w.count ∧ w.mir.most.1 = w.most.1 ∧ w.mir.most.2.2 = w.most.2.2 := by
  have hm := mir_ok ho
  have b1 := (mir_sub w).bes (mir_sub' w) ho hm (fun y z hy hz => by rw [(mir_fa hy).1, (mir_fa hz).2]; exact Int.le_refl _)
  have b2 := (mir_sub' w).bes (mir_sub w) hm ho (fun y z hy hz => by
    have h1 := (mir_fa (mir_back w hy)).1
    have h2 := (mir_fa (mir_back w hz)).2
    rw [mirP_mirP] at h1 h2
    rw [h1, h2]; exact Int.le_refl _)
  have c1 := (mir_sub w).cou ho hm
  have c2 := (mir_sub' w).cou hm ho
  have m1 := (mir_sub w).mos ho hm
  have m2 := (mir_sub' w).mos hm ho
  refine ⟨by omega, b1.2, Prod.ext (by omega) (by omega), by omega, by omega⟩

end Go.Ab
/-
  WringMore, walked: its loops.
-/
namespace Go.Ab
open Go.Proofs
set_option linter.unusedSimpArgs false
set_option linter.unusedVariables false
set_option maxRecDepth 100000
set_option maxHeartbeats 2000000

variable {H : Heap}

theorem mir_take {w : Wg} {j : Nat} (h : j < w.bs.length) : w.mir.bs.take (j + 1) = w.mir.bs.take j ++ [(w.b (w.bs.length - 1 - j)).flip] := by
  rw [List.take_succ_eq_append_getElem (by rw [mir_n]; exact h)]
  have := mir_b w (j := j) (by simp only [Wg.n]; exact h)
  simp only [Wg.b, List.getD_eq_getElem?_getD, List.getElem?_eq_getElem (show j < w.mir.bs.length by rw [mir_n]; exact h), Option.getD_some, Wg.n] at this
  rw [this]
  simp only [Wg.b, List.getD_eq_getElem?_getD]

theorem bk_lt (N : Nat) : ∀ l : List Bk, ltL N (l.map Bk.av) = true := fun l => ltL_map (fun _ => rfl) l
theorem ap_lt (N : Nat) : ∀ l : List Ap, ltL N (l.map Ap.av) = true := fun l => ltL_map (fun _ => rfl) l

/-- The blocks from the other end. -/
theorem zb_loop {w : Wg} {vb va : AV} (h : WgAt H w vb va) (ho : w.Ok) (v1 : AV) (hv1 : v1.lt (H.length + 6) = true) (ox oy : AO) (hox : ox.lt (H.length + 6) = true) (hoy : oy.lt (H.length + 6) = true) (K : List Item) (R : Option Done) (hK : ∀ E : Env, E.get 1 = v1 → E.get 3 = .ptr H.length 0 → E.get 7 = I w.bs.length → E.get 8 = .ptr (H.length + 1) 0 → E.get 9 = .ptr (H.length + 2) 0 → E.get 10 = .ptr (H.length + 3) 0 → Option.map (finishC H.length) (execL cfg0 prog0 ⟨12, none, false, H.length⟩ K ⟨E, [], H ++ [.box (.agg [vb, va]), ox, oy, .box (.agg [.gsl (H.length + 4) w.bs.length, .gsl (H.length + 5) 0]), .grow 8 (w.mir.bs.map Bk.av), .grow 2 []], none⟩) = R)  :
    ∀ (q j : Nat), j + q = w.bs.length → ∀ (G : Heap), ∀ E : Env, E.get 1 = v1 → E.get 3 = .ptr H.length 0 → E.get 7 = I w.bs.length → E.get 8 = .ptr (H.length + 1) 0 → E.get 9 = .ptr (H.length + 2) 0 → E.get 10 = .ptr (H.length + 3) 0 → E.get 163 = I w.bs.length → E.get 164 = I j →
    Option.map (finishC H.length) (execL cfg0 prog0 ⟨12, none, false, H.length⟩ (loopIt Try.f12 15 :: .inBlock 0 :: K) ⟨E, [], H ++ (.box (.agg [vb, va]) :: ox :: oy :: .box (.agg [.gsl (H.length + 4) j, .gsl (H.length + 5) 0]) :: .grow 8 ((w.mir.bs.take j).map Bk.av) :: .grow 2 [] :: G), none⟩) = R := by
  intro q
  obtain ⟨a1, a2, a3, a4, a5⟩ := h.bs.fF (d := bk0)
  have s1 := h.bs.scal
  have s2 := h.ps.scal
  have t1 := h.bs.ltn 6
  have t2 := h.ps.ltn 6
  have h5 := ho.n.2
  simp only [Wg.n] at h5
  have m0 := bk_lt
  induction q with
  | zero =>
    intro j hj G E g1 g3 g7 g8 g9 g10 g163 g164
    have hk' : ¬ (j : Int) < ((w.bs.length : Nat) : Int) := by omega
    have ej : j = w.bs.length := by omega
    subst ej
    have et : w.mir.bs.take w.bs.length = w.mir.bs := List.take_of_length_le (by rw [mir_n]; exact Nat.le_refl _)
    rw [et]
    simp only [loopIt, todoPast, todoAt, todoOf, firstReg, ↓reduceIte, Option.some.injEq, Nat.reduceEqDiff, reduceCtorEq, Try.f12]
    rw [execL_inLoop]
    simp (maxSteps := 1000000) (implicitDefEqProofs := false) (disch := first | rfl | omega | assumption) only [go_sem, g1, g3, g7, g8, g9, g10, g163, g164, ltT, ltF, leT, leF, hk', s1, s2, t1, t2, m0, hv1, hox, hoy]
    exact hK _ (by rfl) (by rfl) (by rfl) (by rfl) (by rfl) (by rfl)
  | succ q ih =>
    intro j hj G E g1 g3 g7 g8 g9 g10 g163 g164
    have hk' : (j : Int) < ((w.bs.length : Nat) : Int) := by omega
    have hk2 : j < w.bs.length := by omega
    simp only [loopIt, todoPast, todoAt, todoOf, firstReg, ↓reduceIte, Option.some.injEq, Nat.reduceEqDiff, reduceCtorEq, Try.f12]
    rw [execL_inLoop]
    have key := ih (j + 1) (by omega)
    have e1 : (w.bs.length : Int) - 1 - j = ((w.bs.length - 1 - j : Nat) : Int) := by omega
    obtain ⟨x, hx⟩ : ∃ x, w.bs.getD (w.bs.length - 1 - j) bk0 = x := ⟨_, rfl⟩
    have hxb : w.b (w.bs.length - 1 - j) = x := hx
    rw [mir_take hk2, hxb] at key
    have hlt : ((w.bs.length - 1 - j : Nat) : Int) < w.bs.length := by omega
    have hadd : ∀ (o0 : AO), addElem (H ++ [.box (.agg [vb, va]), ox, oy, .box (.agg [.gsl (H.length + 4) j, .gsl (H.length + 5) 0]), .grow 8 ((w.mir.bs.take j).map Bk.av), .grow 2 [], o0]) 8 true (.gsl (H.length + 4) j) [x.flip.av] = some (.gsl (H.length + 4) (j + 1), H ++ [.box (.agg [vb, va]), ox, oy, .box (.agg [.gsl (H.length + 4) j, .gsl (H.length + 5) 0]), .grow 8 ((w.mir.bs.take j ++ [x.flip]).map Bk.av), .grow 2 [], o0]) := by
      intro o0
      rw [add_gsl (xs := (w.mir.bs.take j).map Bk.av) (by rw [get_at']; rfl) (by rw [List.length_map, List.length_take, mir_n]; omega) rfl rfl (by simp; omega), set_at', List.map_append]
      rfl
    have hav : x.av.cells = [I x.lo, I x.hi, I x.f0.lo, I x.f0.hi, I x.f0.st, I x.f1.lo, I x.f1.hi, I x.f1.st] := rfl
    simp only [Bk.av, Bk.flip] at hadd
    simp (maxSteps := 1000000) (implicitDefEqProofs := false) (disch := first | rfl | omega | assumption) only [go_sem, g1, g3, g7, g8, g9, g10, g163, g164, ltT, ltF, leT, leF, hk', s1, s2, t1, t2, m0, hv1, hox, hoy, a1, a2, a3, a4, e1, hlt, hx, hav, hadd, List.length_cons, List.length_nil, Nat.reduceAdd, Nat.reduceLeDiff, if_true, List.take_succ_cons, List.take_zero]
    exact key [.box x.av] _ (by rfl) (by rfl) (by rfl) (by rfl) (by rfl) (by rfl) (by rfl) (by rfl)

theorem mirp_take {w : Wg} {j : Nat} (h : j < w.ps.length) : w.mir.ps.take (j + 1) = w.mir.ps.take j ++ [⟨(w.bs.length : Int) - 1 - (w.ps.getD j ap0).b, (w.bs.length : Int) - 1 - (w.ps.getD j ap0).a⟩] := by
  rw [List.take_succ_eq_append_getElem (by simp only [Wg.mir, List.length_map]; exact h)]
  simp only [Wg.mir, List.getElem_map, List.getD_eq_getElem?_getD, List.getElem?_eq_getElem h, Option.getD_some, Wg.n]

/-- The pairs, numbered from the other end. -/
theorem za_loop {w : Wg} {vb va : AV} (h : WgAt H w vb va) (ho : w.Ok) (v1 : AV) (hv1 : v1.lt (H.length + 6) = true) (ox oy : AO) (hox : ox.lt (H.length + 6) = true) (hoy : oy.lt (H.length + 6) = true) (K : List Item) (R : Option Done) (hK : ∀ E : Env, E.get 1 = v1 → E.get 3 = .ptr H.length 0 → E.get 7 = I w.bs.length → E.get 8 = .ptr (H.length + 1) 0 → E.get 9 = .ptr (H.length + 2) 0 → E.get 10 = .ptr (H.length + 3) 0 → Option.map (finishC H.length) (execL cfg0 prog0 ⟨12, none, false, H.length⟩ K ⟨E, [], H ++ [.box (.agg [vb, va]), ox, oy, .box (.agg [.gsl (H.length + 4) w.bs.length, .gsl (H.length + 5) w.ps.length]), .grow 8 (w.mir.bs.map Bk.av), .grow 2 (w.mir.ps.map Ap.av)], none⟩) = R)  :
    ∀ (q j : Nat), j + q = w.ps.length → ∀ (G : Heap), ∀ E : Env, E.get 1 = v1 → E.get 3 = .ptr H.length 0 → E.get 7 = I w.bs.length → E.get 8 = .ptr (H.length + 1) 0 → E.get 9 = .ptr (H.length + 2) 0 → E.get 10 = .ptr (H.length + 3) 0 → E.get 192 = va → E.get 193 = I w.ps.length → E.get 194 = I j →
    Option.map (finishC H.length) (execL cfg0 prog0 ⟨12, none, false, H.length⟩ (loopIt Try.f12 21 :: .inBlock 2 :: K) ⟨E, [], H ++ (.box (.agg [vb, va]) :: ox :: oy :: .box (.agg [.gsl (H.length + 4) w.bs.length, .gsl (H.length + 5) j]) :: .grow 8 (w.mir.bs.map Bk.av) :: .grow 2 ((w.mir.ps.take j).map Ap.av) :: G), none⟩) = R := by
  intro q
  obtain ⟨a1, a2, a3, a4, a5⟩ := h.ps.fF (d := ap0)
  have s1 := h.bs.scal
  have s2 := h.ps.scal
  have t1 := h.bs.ltn 6
  have t2 := h.ps.ltn 6
  have h5 := ho.n.2
  simp only [Wg.n] at h5
  have h6 := ho.np
  have m0 := bk_lt
  have m1 := ap_lt
  induction q with
  | zero =>
    intro j hj G E g1 g3 g7 g8 g9 g10 g192 g193 g194
    have hk' : ¬ (j : Int) < ((w.ps.length : Nat) : Int) := by omega
    have ej : j = w.ps.length := by omega
    subst ej
    have et : w.mir.ps.take w.ps.length = w.mir.ps := List.take_of_length_le (by simp only [Wg.mir, List.length_map]; exact Nat.le_refl _)
    rw [et]
    simp only [loopIt, todoPast, todoAt, todoOf, firstReg, ↓reduceIte, Option.some.injEq, Nat.reduceEqDiff, reduceCtorEq, Try.f12]
    rw [execL_inLoop]
    simp (maxSteps := 1000000) (implicitDefEqProofs := false) (disch := first | rfl | omega | assumption) only [go_sem, g1, g3, g7, g8, g9, g10, g192, g193, g194, ltT, ltF, leT, leF, hk', s1, s2, t1, t2, m0, m1, hv1, hox, hoy]
    exact hK _ (by rfl) (by rfl) (by rfl) (by rfl) (by rfl) (by rfl)
  | succ q ih =>
    intro j hj G E g1 g3 g7 g8 g9 g10 g192 g193 g194
    have hk' : (j : Int) < ((w.ps.length : Nat) : Int) := by omega
    have hk2 : j < w.ps.length := by omega
    simp only [loopIt, todoPast, todoAt, todoOf, firstReg, ↓reduceIte, Option.some.injEq, Nat.reduceEqDiff, reduceCtorEq, Try.f12]
    rw [execL_inLoop]
    have key := ih (j + 1) (by omega)
    have hpo := ho.ap j (by omega)
    simp only [Wg.a, Wg.n] at hpo
    obtain ⟨x, hx⟩ : ∃ x, w.ps.getD j ap0 = x := ⟨_, rfl⟩
    rw [mirp_take hk2, hx] at key
    rw [hx] at hpo
    have hadd : ∀ (o0 : AO), addElem (H ++ [.box (.agg [vb, va]), ox, oy, .box (.agg [.gsl (H.length + 4) w.bs.length, .gsl (H.length + 5) j]), .grow 8 (w.mir.bs.map Bk.av), .grow 2 ((w.mir.ps.take j).map Ap.av), o0]) 2 true (.gsl (H.length + 5) j) [.agg [I ((w.bs.length : Int) - 1 - x.b), I ((w.bs.length : Int) - 1 - x.a)]] = some (.gsl (H.length + 5) (j + 1), H ++ [.box (.agg [vb, va]), ox, oy, .box (.agg [.gsl (H.length + 4) w.bs.length, .gsl (H.length + 5) j]), .grow 8 (w.mir.bs.map Bk.av), .grow 2 ((w.mir.ps.take j ++ [(⟨(w.bs.length : Int) - 1 - x.b, (w.bs.length : Int) - 1 - x.a⟩ : Ap)]).map Ap.av), o0]) := by
      intro o0
      rw [add_gsl (xs := (w.mir.ps.take j).map Ap.av) (by rw [get_at']; rfl) (by rw [List.length_map, List.length_take]; simp only [Wg.mir, List.length_map]; omega) rfl rfl (by simp; omega), set_at', List.map_append]
      rfl
    have hav : x.av.cells = [I x.a, I x.b] := rfl
    simp (maxSteps := 1000000) (implicitDefEqProofs := false) (disch := first | rfl | omega | assumption) only [go_sem, g1, g3, g7, g8, g9, g10, g192, g193, g194, ltT, ltF, leT, leF, hk', s1, s2, t1, t2, m0, m1, hv1, hox, hoy, a1, a2, a3, a4, hx, hav, hadd, List.length_cons, List.length_nil, Nat.reduceAdd, Nat.reduceLeDiff, if_true, List.take_succ_cons, List.take_zero]
    exact key [.box (.agg [I x.a, I x.b])] _ (by rfl) (by rfl) (by rfl) (by rfl) (by rfl) (by rfl) (by rfl) (by rfl) (by rfl)

/-- The first places, written over. -/
def w9 (l : List Pc) (j : Nat) : List Pc := (l.take j).map (fun p => ⟨-9, p.u⟩) ++ l.drop j
theorem w9_len (l : List Pc) {j : Nat} (hj : j ≤ l.length) : (w9 l j).length = l.length := by
  simp only [w9, List.length_append, List.length_map, List.length_take, List.length_drop]; omega
theorem w9_get (l : List Pc) {j : Nat} (hj : j < l.length) : (w9 l j)[j]? = some l[j] := by
  simp only [w9]
  rw [List.getElem?_append_right (by rw [List.length_map, List.length_take]; omega), List.length_map, List.length_take, show j - min j l.length = 0 by omega, List.getElem?_drop, Nat.add_zero, List.getElem?_eq_getElem hj]
theorem w9_set (l : List Pc) {j : Nat} (hj : j < l.length) : (w9 l j).set j ⟨-9, l[j].u⟩ = w9 l (j + 1) := by
  simp only [w9]
  rw [List.set_append_right _ _ (by rw [List.length_map, List.length_take]; omega), List.length_map, List.length_take, show j - min j l.length = 0 by omega, List.drop_eq_getElem_cons hj, List.set_cons_zero, List.take_succ_eq_append_getElem hj, List.map_append, List.append_assoc]
  rfl

theorem w9_st {o0 o1 o2 o3 : AO} {G : Heap} {b : Nat} {l : List Pc} {z : Option Value} {j : Nat} (hj : j < l.length) :
    evStore b (H ++ (o0 :: o1 :: o2 :: o3 :: .grow 2 ((w9 l j).map Pc.av) :: G)) ⟨.int .i64, 1, 8, z⟩ (.eptr (H.length + 4) l.length j 0) (I (-9)) = some (H ++ (o0 :: o1 :: o2 :: o3 :: .grow 2 ((w9 l (j + 1)).map Pc.av) :: G)) := by
  have h1 : ((w9 l j).map Pc.av)[j]? = some (Pc.av l[j]) := by rw [List.getElem?_map, w9_get l hj]; rfl
  have h2 := w9_len l (Nat.le_of_lt hj)
  rw [← w9_set l hj]
  simp only [evStore_eptr, get_at', List.getElem?_cons_succ, List.getElem?_cons_zero, List.length_map, h1, h2]
  simp [AV.lt, writePart, allScalar, AV.cells, AV.scalar, splice, AV.withCells, Pc.av, List.map_set, set_at']

theorem w9_loop (l : List Pc) (hl : l.length ≤ 1000) (v18 v19 v57 : AV) (i41 : Int) (o0 o1 o2 o3 : AO) (G : Heap) (K : List Item) (R : Option Done) (hK : ∀ E : Env, E.get 3 = .ptr H.length 0 → E.get 18 = v18 → E.get 19 = v19 → E.get 41 = I i41 → E.get 57 = v57 → Option.map (finishC H.length) (execL cfg0 prog0 ⟨12, none, false, H.length⟩ K ⟨E, [], H ++ (o0 :: o1 :: o2 :: o3 :: .grow 2 ((w9 l l.length).map Pc.av) :: G), none⟩) = R)  :
    ∀ (q j : Nat), j + q = l.length → ∀ E : Env, E.get 3 = .ptr H.length 0 → E.get 18 = v18 → E.get 19 = v19 → E.get 40 = .gsl (H.length + 4) l.length → E.get 41 = I i41 → E.get 57 = v57 → E.get 425 = I l.length → E.get 426 = I j →
    Option.map (finishC H.length) (execL cfg0 prog0 ⟨12, none, false, H.length⟩ (loopIt Try.f12 48 :: .inBlock 4 :: K) ⟨E, [], H ++ (o0 :: o1 :: o2 :: o3 :: .grow 2 ((w9 l j).map Pc.av) :: G), none⟩) = R := by
  intro q
  induction q with
  | zero =>
    intro j hj  E g3 g18 g19 g40 g41 g57 g425 g426
    have hk' : ¬ (j : Int) < ((l.length : Nat) : Int) := by omega
    have ej : j = l.length := by omega
    subst ej
    simp only [loopIt, todoPast, todoAt, todoOf, firstReg, ↓reduceIte, Option.some.injEq, Nat.reduceEqDiff, reduceCtorEq, Try.f12]
    rw [execL_inLoop]
    simp (maxSteps := 1000000) (implicitDefEqProofs := false) (disch := first | rfl | omega | assumption) only [go_sem, g3, g18, g19, g40, g41, g57, g425, g426, ltT, ltF, leT, leF, hk']
    exact hK _ (by exact g3) (by exact g18) (by exact g19) (by exact g41) (by exact g57)
  | succ q ih =>
    intro j hj  E g3 g18 g19 g40 g41 g57 g425 g426
    have hk' : (j : Int) < ((l.length : Nat) : Int) := by omega
    have hk2 : j < l.length := by omega
    simp only [loopIt, todoPast, todoAt, todoOf, firstReg, ↓reduceIte, Option.some.injEq, Nat.reduceEqDiff, reduceCtorEq, Try.f12]
    rw [execL_inLoop]
    have hst := fun (b : Nat) (z : Option Value) => w9_st (H := H) (o0 := o0) (o1 := o1) (o2 := o2) (o3 := o3) (G := G) (b := b) (z := z) hk2
    have h2 := w9_len l (Nat.le_of_lt hk2)
    have hia : ∀ te : Ty, te.size = 2 → idxAddr (H ++ (o0 :: o1 :: o2 :: o3 :: .grow 2 ((w9 l j).map Pc.av) :: G)) te (.gsl (H.length + 4) l.length) (j : Int) = some (.eptr (H.length + 4) l.length j 0) := by
      intro te ht
      simp only [idxAddr, get_at', List.getElem?_cons_succ, List.getElem?_cons_zero, List.length_map, h2, ht]
      simp [hk2]
    simp (maxSteps := 1000000) (implicitDefEqProofs := false) (disch := first | rfl | omega | assumption) only [go_sem, g3, g18, g19, g40, g41, g57, g425, g426, ltT, ltF, leT, leF, hk', hia, hst]
    exact ih (j + 1) (by omega) _ (by exact g3) (by exact g18) (by exact g19) (by exact g40) (by exact g41) (by exact g57) (by exact g425) (by rfl)

theorem same8 (a b c d e f g i : Int) : sameL [I a, I b, I c, I d, I e, I f, I g, I i] [I a, I b, I c, I d, I e, I f, I g, I i] = true := by simp [sameL, AV.same]
theorem same2e (a b : Int) : sameL [I a, I b] [I a, I b] = true := by simp [sameL, AV.same]

theorem cb_loop {w : Wg} {vb va : AV} (h : WgAt H w vb va) (h5 : w.bs.length ≤ 1000) (v19 : AV) (GG : Heap) (K : List Item) (R : Option Done) (hK : ∀ E : Env, E.get 3 = .ptr H.length 0 → E.get 19 = v19 → Option.map (finishC H.length) (execL cfg0 prog0 ⟨12, none, false, H.length⟩ K ⟨E, [], H ++ (.box (.agg [vb, va]) :: GG), none⟩) = R)  :
    ∀ (q j : Nat), j + q = w.bs.length → ∀ E : Env, E.get 3 = .ptr H.length 0 → E.get 18 = .sl false (w.bs.map Bk.av) → E.get 19 = v19 → E.get 450 = I w.bs.length → E.get 451 = I j →
    Option.map (finishC H.length) (execL cfg0 prog0 ⟨12, none, false, H.length⟩ (loopIt Try.f12 56 :: .inBlock 6 :: K) ⟨E, [], H ++ (.box (.agg [vb, va]) :: GG), none⟩) = R := by
  intro q
  have s1 := h.bs.scal
  have s2 := h.ps.scal
  obtain ⟨a1, a2, a3, a4, a5⟩ := h.bs.fF (d := bk0)
  have hS : ∀ G : Heap, SlOk (H ++ G) 8 (.sl false (w.bs.map Bk.av)) (w.bs.map Bk.av) := fun G => ⟨rfl, by simp [Bk.av, AV.cells]⟩
  have b1 := fun G : Heap => ((hS G).fF (d := bk0)).2.1
  have b2 := fun G : Heap => ((hS G).fF (d := bk0)).2.2.2.1
  induction q with
  | zero =>
    intro j hj  E g3 g18 g19 g450 g451
    have hk' : ¬ (j : Int) < ((w.bs.length : Nat) : Int) := by omega
    simp only [loopIt, todoPast, todoAt, todoOf, firstReg, ↓reduceIte, Option.some.injEq, Nat.reduceEqDiff, reduceCtorEq, Try.f12]
    rw [execL_inLoop]
    simp (maxSteps := 1000000) (implicitDefEqProofs := false) (disch := first | rfl | omega | assumption) only [go_sem, g3, g18, g19, g450, g451, ltT, ltF, leT, leF, hk', s1, s2]
    exact hK _ (by exact g3) (by exact g19)
  | succ q ih =>
    intro j hj  E g3 g18 g19 g450 g451
    have hk' : (j : Int) < ((w.bs.length : Nat) : Int) := by omega
    have hk2 : j < w.bs.length := by omega
    simp only [loopIt, todoPast, todoAt, todoOf, firstReg, ↓reduceIte, Option.some.injEq, Nat.reduceEqDiff, reduceCtorEq, Try.f12]
    rw [execL_inLoop]
    obtain ⟨x, hx⟩ : ∃ x, w.bs.getD j bk0 = x := ⟨_, rfl⟩
    have hav : x.av.cells = [I x.lo, I x.hi, I x.f0.lo, I x.f0.hi, I x.f0.st, I x.f1.lo, I x.f1.hi, I x.f1.st] := rfl
    simp (maxSteps := 1000000) (implicitDefEqProofs := false) (disch := first | rfl | omega | assumption) only [go_sem, g3, g18, g19, g450, g451, ltT, ltF, leT, leF, hk', s1, s2]
    rw [chkK_of]; rotate_left; kernel_rfl
    simp (maxSteps := 1000000) (implicitDefEqProofs := false) (disch := first | rfl | omega | assumption) only [go_sem, g3, g18, g19, g450, g451, ltT, ltF, leT, leF, hk', s1, s2, a1, a2, a3, a4, b1, b2, hx, hav, same8, bne_self_eq_false, List.length_cons, List.length_nil, Nat.reduceAdd, Nat.reduceLeDiff, if_true, List.take_succ_cons, List.take_zero]
    exact ih (j + 1) (by omega) _ (by exact g3) (by exact g18) (by exact g19) (by exact g450) (by rfl)

theorem ca_loop {w : Wg} {vb va : AV} (h : WgAt H w vb va) (h5 : w.ps.length ≤ 1000) (GG : Heap) :
    ∀ (q j : Nat), j + q = w.ps.length → ∀ E : Env, E.get 3 = .ptr H.length 0 → E.get 19 = .sl false (w.ps.map Ap.av) → E.get 466 = I w.ps.length → E.get 467 = I j →
    Option.map (finishC H.length) (execL cfg0 prog0 ⟨12, none, false, H.length⟩ (todoAt Try.f12 62) ⟨E, [], H ++ (.box (.agg [vb, va]) :: GG), none⟩) = some ⟨.ret (.bool true), H, none⟩ := by
  intro q
  have s1 := h.bs.scal
  have s2 := h.ps.scal
  obtain ⟨a1, a2, a3, a4, a5⟩ := h.ps.fF (d := ap0)
  have hS : ∀ G : Heap, SlOk (H ++ G) 2 (.sl false (w.ps.map Ap.av)) (w.ps.map Ap.av) := fun G => ⟨rfl, by simp [Ap.av, AV.cells]⟩
  have b1 := fun G : Heap => ((hS G).fF (d := ap0)).2.1
  have b2 := fun G : Heap => ((hS G).fF (d := ap0)).2.2.2.1
  induction q with
  | zero =>
    intro j hj  E g3 g19 g466 g467
    have hk' : ¬ (j : Int) < ((w.ps.length : Nat) : Int) := by omega
    simp only [loopIt, todoPast, todoAt, todoOf, firstReg, ↓reduceIte, Option.some.injEq, Nat.reduceEqDiff, reduceCtorEq, Try.f12]
    rw [execL_inLoop]
    simp (maxSteps := 1000000) (implicitDefEqProofs := false) (disch := first | rfl | omega | assumption) only [go_sem, g3, g19, g466, g467, ltT, ltF, leT, leF, hk', s1, s2, law_alive]
    done
  | succ q ih =>
    intro j hj  E g3 g19 g466 g467
    have hk' : (j : Int) < ((w.ps.length : Nat) : Int) := by omega
    have hk2 : j < w.ps.length := by omega
    simp only [loopIt, todoPast, todoAt, todoOf, firstReg, ↓reduceIte, Option.some.injEq, Nat.reduceEqDiff, reduceCtorEq, Try.f12]
    rw [execL_inLoop]
    obtain ⟨x, hx⟩ : ∃ x, w.ps.getD j ap0 = x := ⟨_, rfl⟩
    have hav : x.av.cells = [I x.a, I x.b] := rfl
    simp (maxSteps := 1000000) (implicitDefEqProofs := false) (disch := first | rfl | omega | assumption) only [go_sem, g3, g19, g466, g467, ltT, ltF, leT, leF, hk', s1, s2]
    rw [chkK_of]; rotate_left; kernel_rfl
    simp (maxSteps := 1000000) (implicitDefEqProofs := false) (disch := first | rfl | omega | assumption) only [go_sem, g3, g19, g466, g467, ltT, ltF, leT, leF, hk', s1, s2, a1, a2, a3, a4, b1, b2, hx, hav, same2e, bne_self_eq_false, List.length_cons, List.length_nil, Nat.reduceAdd, Nat.reduceLeDiff, if_true, List.take_succ_cons, List.take_zero]
    exact ih (j + 1) (by omega) _ (by exact g3) (by exact g19) (by exact g466) (by rfl)

end Go.Ab
/-
  WringMore, walked: its head.
-/
namespace Go.Ab
open Go.Proofs
set_option linter.unusedSimpArgs false
set_option linter.unusedVariables false
set_option maxRecDepth 100000
set_option maxHeartbeats 4000000

variable {H : Heap}

theorem gi4 {o0 o1 o2 o3 : AO} {G : Heap} {M : List Bk} {n i : Nat} (hn : M.length = n) (hi : i < n) (te : Ty) (ht : te.size = 8) : idxAddr (H ++ (o0 :: o1 :: o2 :: o3 :: .grow 8 (M.map Bk.av) :: G)) te (.gsl (H.length + 4) n) (i : Int) = some (.eptr (H.length + 4) n i 0) := by
  simp only [idxAddr, get_at', List.getElem?_cons_succ, List.getElem?_cons_zero, List.length_map, hn, ht]
  simp [hi]
theorem gi5 {o0 o1 o2 o3 o4 : AO} {G : Heap} {M : List Bk} {n i : Nat} (hn : M.length = n) (hi : i < n) (te : Ty) (ht : te.size = 8) : idxAddr (H ++ (o0 :: o1 :: o2 :: o3 :: o4 :: .grow 8 (M.map Bk.av) :: G)) te (.gsl (H.length + 5) n) (i : Int) = some (.eptr (H.length + 5) n i 0) := by
  simp only [idxAddr, get_at', List.getElem?_cons_succ, List.getElem?_cons_zero, List.length_map, hn, ht]
  simp [hi]
theorem gl4 {o0 o1 o2 o3 : AO} {G : Heap} {M : List Bk} {n i : Nat} (hn : M.length = n) (hi : i < n) (ty : Ty) (off : Nat) : evLoad (H ++ (o0 :: o1 :: o2 :: o3 :: .grow 8 (M.map Bk.av) :: G)) ty (.eptr (H.length + 4) n i off) = readPart (M.getD i bk0).av.cells off ty := by
  subst hn
  have h1 : (M.map Bk.av)[i]? = some (M.getD i bk0).av := by simp [hi]
  simp only [evLoad_eptr, get_at', List.getElem?_cons_succ, List.getElem?_cons_zero, List.length_map, h1]
  simp
theorem gl5 {o0 o1 o2 o3 o4 : AO} {G : Heap} {M : List Bk} {n i : Nat} (hn : M.length = n) (hi : i < n) (ty : Ty) (off : Nat) : evLoad (H ++ (o0 :: o1 :: o2 :: o3 :: o4 :: .grow 8 (M.map Bk.av) :: G)) ty (.eptr (H.length + 5) n i off) = readPart (M.getD i bk0).av.cells off ty := by
  subst hn
  have h1 : (M.map Bk.av)[i]? = some (M.getD i bk0).av := by simp [hi]
  simp only [evLoad_eptr, get_at', List.getElem?_cons_succ, List.getElem?_cons_zero, List.length_map, h1]
  simp

/-- The state of a face is stored, in the first list; how rough it is at most, in the second one. -/
theorem gs4 {o0 o1 o2 o3 : AO} {G : Heap} {M : List Bk} {n i b k : Nat} {z : Option Value} (hn : M.length = n) (hi : i < n) (hk : k < 2) (x : Int) : evStore b (H ++ (o0 :: o1 :: o2 :: o3 :: .grow 8 (M.map Bk.av) :: G)) ⟨.int .i64, 1, 8, z⟩ (.eptr (H.length + 4) n i (2 + (k * 3 + 2))) (I x) = some (H ++ (o0 :: o1 :: o2 :: o3 :: .grow 8 ((M.set i ((M.getD i bk0).setF k ⟨((M.getD i bk0).fc k).lo, ((M.getD i bk0).fc k).hi, x⟩)).map Bk.av) :: G)) := by
  subst hn
  have h1 : (M.map Bk.av)[i]? = some (M.getD i bk0).av := by simp [hi]
  have : k = 0 ∨ k = 1 := by omega
  rcases this with rfl | rfl <;>
    (simp only [evStore_eptr, get_at', List.getElem?_cons_succ, List.getElem?_cons_zero, List.length_map, h1]
     simp [AV.lt, writePart, allScalar, AV.cells, AV.scalar, splice, AV.withCells, Bk.av, Bk.setF, Bk.fc, List.map_set, set_at'])
theorem gs5 {o0 o1 o2 o3 o4 : AO} {G : Heap} {M : List Bk} {n i b k : Nat} {z : Option Value} (hn : M.length = n) (hi : i < n) (hk : k < 2) (x : Int) : evStore b (H ++ (o0 :: o1 :: o2 :: o3 :: o4 :: .grow 8 (M.map Bk.av) :: G)) ⟨.int .i64, 1, 8, z⟩ (.eptr (H.length + 5) n i (2 + (k * 3 + 1))) (I x) = some (H ++ (o0 :: o1 :: o2 :: o3 :: o4 :: .grow 8 ((M.set i ((M.getD i bk0).setF k ⟨((M.getD i bk0).fc k).lo, x, ((M.getD i bk0).fc k).st⟩)).map Bk.av) :: G)) := by
  subst hn
  have h1 : (M.map Bk.av)[i]? = some (M.getD i bk0).av := by simp [hi]
  have : k = 0 ∨ k = 1 := by omega
  rcases this with rfl | rfl <;>
    (simp only [evStore_eptr, get_at', List.getElem?_cons_succ, List.getElem?_cons_zero, List.length_map, h1]
     simp [AV.lt, writePart, allScalar, AV.cells, AV.scalar, splice, AV.withCells, Bk.av, Bk.setF, Bk.fc, List.map_set, set_at'])

theorem slB {H : Heap} {b : Bool} (xs : List Bk) : SlOk H 8 (.sl b (xs.map Bk.av)) (xs.map Bk.av) := ⟨rfl, fun x hx => by
  obtain ⟨i, _, rfl⟩ := List.mem_map.1 hx; rfl⟩
theorem slA {H : Heap} {b : Bool} (xs : List Ap) : SlOk H 2 (.sl b (xs.map Ap.av)) (xs.map Ap.av) := ⟨rfl, fun x hx => by
  obtain ⟨i, _, rfl⟩ := List.mem_map.1 hx; rfl⟩

theorem sameP_refl0 (xs : List Pc) : sameP xs xs = true := by
  simp only [sameP, Bool.and_eq_true, decide_eq_true_eq, true_and, Bool.not_eq_true', anyF_false]
  intro i _ _
  simp [neP]

theorem apOk (l : List Ap) : elemsOk 2 true (l.map Ap.av) = true := by
  induction l with
  | nil => rfl
  | cons x r ih => simp only [List.map_cons, elemsOk, ih, Bool.and_true]; rfl

theorem law_WringMore {w : Wg} {fb fa : Bool} (h : WgAt H w (.sl fb (w.bs.map Bk.av)) (.sl fa (w.ps.map Ap.av))) {vy : AV} {ws : List Int} (hy : SlOk H 1 vy (ws.map B8)) (hyB : ByOk ws) (c : Int) (hc : 0 ≤ c ∧ c ≤ 255) :
    callFL cfg0 prog0 false 12 [.agg [.sl fb (w.bs.map Bk.av), .sl fa (w.ps.map Ap.av)], vy, .int .u8 c] H none = some ⟨.ret (.bool true), H, none⟩ := by
  have s1 := h.bs.scal
  have s2 := h.ps.scal
  have n1 := h.bs.len
  rw [List.length_map] at n1
  have n2 := h.ps.len
  rw [List.length_map] at n2
  have c1 := h.bs.cel
  have s3 := hy.scal
  have hL := fun G : Heap => law_long (h.app G) (slP (H := H ++ G) (b := true) [])
  have hA := fun G : Heap => law_alive G
  simp only [List.map_nil, List.length_nil] at hL
  by_cases hlg : 40 < w.bs.length ∨ 40 < w.ps.length ∨ 40 < 0
  · rw [decide_eq_true hlg] at hL
    refine (callFL_eq fn12 rfl (by simp [Try.f12])).trans ?_
    simp (maxSteps := 1000000) (implicitDefEqProofs := false) (disch := first | rfl | omega | assumption) only [go_sem, ltT, ltF, leT, leF, s1, s2, s3, hL, hA]
    done
  rw [decide_eq_false hlg] at hL
  have hl : w.bs.length ≤ 1000 ∧ w.ps.length ≤ 1000 := by omega
  have hW := fun G : Heap => ref_Wring (h.app G) hl
  cases hv : w.valid
  · rw [hv] at hW
    refine (callFL_eq fn12 rfl (by simp [Try.f12])).trans ?_
    simp (maxSteps := 1000000) (implicitDefEqProofs := false) (disch := first | rfl | omega | assumption) only [go_sem, ltT, ltF, leT, leF, s1, s2, s3, hL, hW, hA]
    done
  have ho := w.valid_iff.1 hv
  rw [hv] at hW
  have hn := ho.n
  simp only [Wg.n] at hn
  obtain ⟨d, rfl⟩ : ∃ d : Nat, c = d := ⟨c.toNat, by omega⟩
  obtain ⟨i, hi⟩ : ∃ i, d % w.bs.length = i := ⟨_, rfl⟩
  obtain ⟨k, hk⟩ : ∃ k, d / 8 % 2 = k := ⟨_, rfl⟩
  have hil : i < w.bs.length := by rw [← hi]; exact Nat.mod_lt _ (by omega)
  have hkl : k < 2 := by omega
  have e1 : (d : Int).tmod (w.bs.length : Int) = (i : Int) := by rw [← hi]; rfl
  have e2 : (d : Int).tdiv 8 = ((d / 8 : Nat) : Int) := rfl
  have e3 : ((d / 8 : Nat) : Int).tmod 2 = (k : Int) := by rw [← hk]; rfl
  have e4 : ¬ (w.bs.length : Int) = 0 := by omega
  have wd : IntKind.i64.wrap (d : Int) = d := w64 (by omega) (by omega)
  have wd8 : IntKind.i64.wrap ((d / 8 : Nat) : Int) = ((d / 8 : Nat) : Int) := w64 (by omega) (by omega)
  have hel := fun G : Heap => (h.bs.app G).elems
  have bok : elemsOk 8 true (w.bs.map Bk.av) = true := by
    have key : ∀ l : List Bk, elemsOk 8 true (l.map Bk.av) = true := fun l => by
      induction l with
      | nil => rfl
      | cons x r ih => simp only [List.map_cons, elemsOk, ih, Bool.and_true]; rfl
    exact key _
  have hX : ∀ o0 o1 o2 o3 : AO, addElem (H ++ [o0, o1, o2, o3]) 8 true (.sl true []) (w.bs.map Bk.av) = some (.gsl (H.length + 4) w.bs.length, H ++ [o0, o1, o2, o3, .grow 8 (w.bs.map Bk.av)]) := by
    intro o0 o1 o2 o3
    rw [add_full (H := H ++ [o0, o1, o2, o3]) (sz := 8) (a := true) (xs := []) (ys := w.bs.map Bk.av) rfl rfl bok (bk_lt 0 _) (by simp; omega) rfl]
    simp
  have hela := fun G : Heap => (h.ps.app G).elems
  have aok : elemsOk 2 true (w.ps.map Ap.av) = true := by
    have key : ∀ l : List Ap, elemsOk 2 true (l.map Ap.av) = true := fun l => by
      induction l with
      | nil => rfl
      | cons x r ih => simp only [List.map_cons, elemsOk, ih, Bool.and_true]; rfl
    exact key _
  have hP : ∀ o0 o1 o2 o3 o4 : AO, addElem (H ++ [o0, o1, o2, o3, o4]) 2 true (.sl true []) (w.ps.map Ap.av) = some (.gsl (H.length + 5) w.ps.length, H ++ [o0, o1, o2, o3, o4, .grow 2 (w.ps.map Ap.av)]) := by
    intro o0 o1 o2 o3 o4
    rw [add_full (H := H ++ [o0, o1, o2, o3, o4]) (sz := 2) (a := true) (xs := []) (ys := w.ps.map Ap.av) rfl rfl aok (ap_lt 0 _) (by simp; omega) rfl]
    simp
  have hY : ∀ o0 o1 o2 o3 o4 : AO, addElem (H ++ [o0, o1, o2, o3, o4]) 8 true (.sl true []) (w.bs.map Bk.av) = some (.gsl (H.length + 5) w.bs.length, H ++ [o0, o1, o2, o3, o4, .grow 8 (w.bs.map Bk.av)]) := by
    intro o0 o1 o2 o3 o4
    rw [add_full (H := H ++ [o0, o1, o2, o3, o4]) (sz := 8) (a := true) (xs := []) (ys := w.bs.map Bk.av) rfl rfl bok (bk_lt 0 _) (by simp; omega) rfl]
    simp
  have hbl : w.bs.length = w.bs.length := rfl
  have i4 := fun (o0 o1 o2 o3 : AO) (G : Heap) (te : Ty) (ht : te.size = 8) => gi4 (H := H) (o0 := o0) (o1 := o1) (o2 := o2) (o3 := o3) (G := G) (M := w.bs) rfl hil te ht
  have l4 := fun (o0 o1 o2 o3 : AO) (G : Heap) (ty : Ty) (off : Nat) => gl4 (H := H) (o0 := o0) (o1 := o1) (o2 := o2) (o3 := o3) (G := G) (M := w.bs) rfl hil ty off
  refine (callFL_eq fn12 rfl (by simp [Try.f12])).trans ?_
  simp (maxSteps := 1000000) (implicitDefEqProofs := false) (disch := first | rfl | omega | assumption) only [go_sem, ltT, ltF, leT, leF, s1, s2, s3, n1, n2, hL, hW, hA]
  rw [chkK_of]; rotate_left; kernel_rfl
  simp (maxSteps := 1000000) (implicitDefEqProofs := false) (disch := first | rfl | omega | assumption) only [go_sem, ltT, ltF, leT, leF, s1, s2, s3, n1, n2, hL, hW, hA]
  rw [chkK_of]; rotate_left; kernel_rfl
  simp (maxSteps := 1000000) (implicitDefEqProofs := false) (disch := first | rfl | omega | assumption) only [go_sem, ltT, ltF, leT, leF, s1, s2, s3, n1, n2, hel, hX, hY]
  rw [chkK_of]; rotate_left; kernel_rfl
  simp (maxSteps := 1000000) (implicitDefEqProofs := false) (disch := first | rfl | omega | assumption) only [go_sem, ltT, ltF, leT, leF, s1, s2, s3, n1, n2, hel, hX, hY, e1, e2, e3, e4, wd, wd8, i4, l4]
  have r4 : (w.bs.getD i bk0).av.cells[2 + (k * 3 + 2)]? = some (I ((w.bs.getD i bk0).fc k).st) := by
    have : k = 0 ∨ k = 1 := by omega
    rcases this with rfl | rfl <;> rfl
  have hfo := (fc_ok ho (j := i) (q := k) (by simp only [Wg.n]; exact hil)).st
  have st4 := fun (o0 o1 o2 o3 : AO) (G : Heap) (b : Nat) (z : Option Value) (x : Int) => gs4 (H := H) (o0 := o0) (o1 := o1) (o2 := o2) (o3 := o3) (G := G) (M := w.bs) (b := b) (z := z) rfl hil hkl x
  simp only [Wg.b] at hfo
  have i5 := fun (o0 o1 o2 o3 o4 : AO) (G : Heap) (te : Ty) (ht : te.size = 8) => gi5 (H := H) (o0 := o0) (o1 := o1) (o2 := o2) (o3 := o3) (o4 := o4) (G := G) (M := w.bs) rfl hil te ht
  have l5 := fun (o0 o1 o2 o3 o4 : AO) (G : Heap) (ty : Ty) (off : Nat) => gl5 (H := H) (o0 := o0) (o1 := o1) (o2 := o2) (o3 := o3) (o4 := o4) (G := G) (M := w.bs) rfl hil ty off
  have st5 := fun (o0 o1 o2 o3 o4 : AO) (G : Heap) (b : Nat) (z : Option Value) (x : Int) => gs5 (H := H) (o0 := o0) (o1 := o1) (o2 := o2) (o3 := o3) (o4 := o4) (G := G) (M := w.bs) (b := b) (z := z) rfl hil hkl x
  have r5 : (w.bs.getD i bk0).av.cells[2 + (k * 3 + 1)]? = some (I ((w.bs.getD i bk0).fc k).hi) := by
    have : k = 0 ∨ k = 1 := by omega
    rcases this with rfl | rfl <;> rfl
  have hfh := (fc_ok ho (j := i) (q := k) (by simp only [Wg.n]; exact hil)).sp
  simp only [Wg.b] at hfh
  have t0b := bk_lt
  have t0a := ap_lt
  have ty4 := hy.ltn 4
  have ty6 := hy.ltn 6
  have hLl : ∀ x : Bk, (w.bs.set i x).length = w.bs.length := fun x => List.length_set ..
  by_cases hpar : d % 2 = 0
  · have hp2 : (d : Int).tmod 2 = 0 := by
      have : (d : Int).tmod 2 = ((d % 2 : Nat) : Int) := rfl
      rw [this, hpar]; rfl
    simp (maxSteps := 1000000) (implicitDefEqProofs := false) (disch := first | rfl | omega | assumption) only [go_sem, ltT, ltF, leT, leF, s1, s2, s3, n1, n2, hel, e1, e2, e3, e4, wd, wd8, hp2, l4, r4, st4]
    rw [chkK_of]; rotate_left; kernel_rfl
    simp (maxSteps := 1000000) (implicitDefEqProofs := false) (disch := first | rfl | omega | assumption) only [go_sem, ltT, ltF, leT, leF, s1, s2, s3, n1, n2, hel, e1, e2, e3, e4, wd, wd8, i5, l5, r5, st5, t0b, t0a, hLl, ty4]
    refine zb_loop h ho vy ty6 _ _ (by simp [AO.lt, AV.lt, ltL, bk_lt, ap_lt]) (by simp [AO.lt, AV.lt, ltL, bk_lt, ap_lt]) _ _ (fun E f1 f3 f7 f8 f9 f10 => ?_) w.bs.length 0 (by omega) [] _ (by rfl) (by rfl) (by rfl) (by rfl) (by rfl) (by rfl) (by rfl) (by rfl)
    simp (maxSteps := 1000000) (implicitDefEqProofs := false) (disch := first | rfl | omega | assumption) only [go_sem, ltT, ltF, leT, leF, s1, s2, s3, n1, n2, f1, f3, f7, f8, f9, f10]
    refine za_loop h ho vy ty6 _ _ (by simp [AO.lt, AV.lt, ltL, bk_lt, ap_lt]) (by simp [AO.lt, AV.lt, ltL, bk_lt, ap_lt]) _ _ (fun E f1 f3 f7 f8 f9 f10 => ?_) w.ps.length 0 (by omega) [] _ (by exact f1) (by exact f3) (by exact f7) (by exact f8) (by exact f9) (by exact f10) (by rfl) (by rfl) (by rfl)
    have mn := mir_n w
    have mp : w.mir.ps.length = w.ps.length := by simp only [Wg.mir, List.length_map]
    simp (maxSteps := 1000000) (implicitDefEqProofs := false) (disch := first | rfl | omega | assumption) only [go_sem, ltT, ltF, leT, leF, s1, s2, s3, n1, n2, f1, f3, f7, f8, f9, f10, t0b, t0a, ty4, mn, mp]
    rw [chkK_of]; rotate_left; kernel_rfl
    simp (maxSteps := 1000000) (implicitDefEqProofs := false) (disch := first | rfl | omega | assumption) only [go_sem, ltT, ltF, leT, leF, s1, s2, s3, n1, n2, hel, hela, hX, hP, t0b, t0a, ty4, List.length_map]
    have eY : w.bs.set i ((w.bs.getD i bk0).setF k ⟨((w.bs.getD i bk0).fc k).lo, if ((w.bs.getD i bk0).fc k).hi + 1 < 5 then ((w.bs.getD i bk0).fc k).hi + 1 else 5, ((w.bs.getD i bk0).fc k).st⟩) = (w.rg i k).bs := rfl
    have hkl1 : k ≤ 1 := by omega
    have hin : i < w.n := hil
    have hxo := btr_ok ho hin hkl1
    have hxs := btr_sub ho hin hkl1
    have hxl : (w.btr i k).bs.length ≤ 1000 ∧ (w.btr i k).ps.length ≤ 1000 := ⟨by show (w.bs.set i _).length ≤ 1000; rw [List.length_set]; omega, hl.2⟩
    have hxA : ∀ G : Heap, WgAt (H ++ G) (w.btr i k) (.sl false ((w.btr i k).bs.map Bk.av)) (.sl fa (w.ps.map Ap.av)) := fun G => ⟨slB _, (h.ps.app G)⟩
    have eX : w.bs.set i ((w.bs.getD i bk0).setF k ⟨((w.bs.getD i bk0).fc k).lo, ((w.bs.getD i bk0).fc k).hi, if 0 < ((w.bs.getD i bk0).fc k).st - 1 then ((w.bs.getD i bk0).fc k).st - 1 else 0⟩) = (w.btr i k).bs := rfl
    simp only [eX, eY]
    have hyo := rg_ok ho hin hkl1
    have hys := rg_sub ho hin hkl1
    have hys' := rg_sub' ho hin hkl1
    have hzo := mir_ok ho
    have hzs := mir_sub w
    have hzs' := mir_sub' w
    have he := rg_best ho hin hkl1
    have hg := mir_told ho
    have hM := fun G : Heap => law_made (h.app G) ⟨by omega, by omega⟩ (hy.app G) hyB
    have hst := made_stk (w := w) (by omega) hyB
    have hml := stk_len ho hst
    have hf := rg_length ho hin hkl1 hst
    have hwA := fun G : Heap => h.app G
    have hyl : (w.rg i k).bs.length ≤ 1000 ∧ (w.rg i k).ps.length ≤ 1000 := ⟨by show (w.bs.set i _).length ≤ 1000; rw [List.length_set]; omega, hl.2⟩
    have hyA : ∀ G : Heap, WgAt (H ++ G) (w.rg i k) (.sl false ((w.rg i k).bs.map Bk.av)) (.sl fa (w.ps.map Ap.av)) := fun G => ⟨slB _, (h.ps.app G)⟩
    have hzl : w.mir.bs.length ≤ 1000 ∧ w.mir.ps.length ≤ 1000 := ⟨by rw [mir_n]; omega, by rw [mp]; omega⟩
    have hzA : ∀ G : Heap, WgAt (H ++ G) w.mir (.sl false (w.mir.bs.map Bk.av)) (.sl false (w.mir.ps.map Ap.av)) := fun G => ⟨slB _, slA _⟩
    generalize madeL w.bs.length ws = l at *
    generalize w.rg i k = y at *
    generalize w.mir = z at *
    generalize w.btr i k = x at *
    have hcan : w.can false = true → y.can false = true ∧ z.can false = true := fun c => ⟨hys.can ho hyo c, hzs.can ho hzo c⟩
    have hcan' : (y.can false = true → w.can false = true) ∧ (z.can false = true → w.can false = true) := ⟨fun c => hys'.can hyo ho c, fun c => hzs'.can hzo ho c⟩
    obtain ⟨ha1, ha2, ha3⟩ := hxs.hol ho hxo hst
    obtain ⟨hb1, hb2, hb3⟩ := hxs.hop ho hxo
    obtain ⟨hc1, hc2, hc3⟩ := hxs.cou ho hxo
    obtain ⟨hd1, hd2, hd3⟩ := hxs.mos ho hxo
    have r1 := fun G : Heap => wr_Holds (hwA G) hl false l (by omega)
    have r2 := fun G : Heap => wr_Holds (hxA G) hxl false l (by omega)
    have r3 := fun G : Heap => wr_Hope (hwA G) hl
    have r4 := fun G : Heap => wr_Hope (hxA G) hxl
    have r5 := fun G : Heap => wr_Most (hwA G) hl
    have r6 := fun G : Heap => wr_Most (hxA G) hxl
    have r7 := fun G : Heap => wr_Count (hwA G) hl
    have r8 := fun G : Heap => wr_Count (hxA G) hxl
    have b1 := fun G : Heap => wr_Best (hwA G) hl
    have b2 := fun G : Heap => wr_Best (hyA G) hyl
    have b3 := fun G : Heap => wr_Best (hzA G) hzl
    have q1 := fun G : Heap => wr_Length (hwA G) hl false l (by omega)
    have q2 := fun G : Heap => wr_Length (hyA G) hyl false l (by omega)
    have q3 := fun G : Heap => wr_Count (hzA G) hzl
    have q4 := fun G : Heap => wr_Most (hzA G) hzl
    obtain ⟨hg1, hg2, hg3, hg4, hg5⟩ := hg
    obtain ⟨hf1, hf2, hf3, hf4⟩ := hf
    obtain ⟨he1, he2⟩ := he
    simp only [ha2] at r1
    simp only [ha3] at r2
    simp only [hb2] at r3
    simp only [hb3] at r4
    simp only [hd2] at r5
    simp only [hd3] at r6
    simp only [hc2] at r7
    simp only [hc3] at r8
    simp only [hf1] at q1
    simp only [hf2, hf3] at q2
    simp only [hg3, hc2] at q3
    simp only [hg4, hg5, hd2] at q4
    have n1 : ¬ (x.holds l).1 < (w.holds l).1 := by omega
    have n2 : ¬ x.hope.1 < w.hope.1 := by omega
    have n3 : ¬ x.most.1 < w.most.1 := by omega
    have n4 : ¬ x.count.1 < w.count.1 := by omega
    have n5 : ¬ (y.length l).1.2 < (w.length l).1.2 := by omega
    cases cw : w.can false
    · have cy : y.can false = false := by
        cases c : y.can false
        · rfl
        · rw [hcan'.1 c] at cw; cases cw
      have cz : z.can false = false := by
        cases c : z.can false
        · rfl
        · rw [hcan'.2 c] at cw; cases cw
      rw [best_no ho cw] at b1
      rw [best_no hyo cy] at b2
      rw [best_no hzo cz] at b3
      simp only [plG, plH, List.append_nil] at b1 b2 b3
      clear hcan hcan' he1 he2 hg1 hg2
      have hC := fun (G : Heap) => cb_loop (H := H) h (by omega) (.sl false (w.ps.map Ap.av)) G
      simp (maxSteps := 1000000) (implicitDefEqProofs := false) (disch := first | rfl | omega | assumption) only [go_sem, ltT, ltF, leT, leF, s1, s2, s3, c1, hM, r1, r2, r3, r4, r5, r6, r7, r8, b1, b2, b3, q1, q2, q3, q4, n1, n2, n3, n4, n5]
      have hK := fun G : Heap => (show addElem G 2 true (.sl true []) [] = some (.gsl G.length 0, G ++ [.grow 2 []]) from by simp [addElem, elemsOk, ltL, maxLenA])
      have r0 := fun (G : Heap) (o0 o1 o2 o3 o4 o5 : AO) => ref_Same (H := H ++ (o0 :: o1 :: o2 :: o3 :: o4 :: o5 :: .grow 2 (([] : List Pc).map Pc.av) :: G)) (v1 := .sl true []) (v2 := .gsl (H.length + 6) 0) (xs := []) (ys := []) (slP (b := true) []) ⟨⟨by simp [get_at'], by simp⟩, by simp⟩ (by simp) (by simp)
      simp only [List.map_nil, sameP_refl0] at r0
      simp (maxSteps := 1000000) (implicitDefEqProofs := false) (disch := first | rfl | omega | assumption) only [go_sem, ltT, ltF, leT, leF, hK, Option.map_some]
      rw [execL_inLoop]
      simp (maxSteps := 1000000) (implicitDefEqProofs := false) (disch := first | rfl | omega | assumption) only [go_sem, ltT, ltF, leT, leF, hK, b1, r0]
      refine cb_loop h (by omega) _ _ _ _ (fun E f3 f19 => ?_) w.bs.length 0 (by omega) _ (by rfl) (by rfl) (by rfl) (by rfl) (by rfl)
      simp (maxSteps := 1000000) (implicitDefEqProofs := false) (disch := first | rfl | omega | assumption) only [go_sem, ltT, ltF, leT, leF, s1, s2, f3, f19]
      exact ca_loop h (by omega) _ w.ps.length 0 (by omega) _ (by exact f3) (by exact f19) (by rfl) (by rfl)
    · obtain ⟨cy, cz⟩ := hcan cw
      obtain ⟨w1, w2, w3, w4, w5⟩ := best_is ho cw
      obtain ⟨y1, y2, y3, y4, y5⟩ := best_is hyo cy
      obtain ⟨z1, z2, z3, z4, z5⟩ := best_is hzo cz
      rw [w1] at b1 he1 hg1
      rw [y1] at b2 he1
      rw [z1] at b3 hg1
      simp only [plG, plH] at b1 b2 b3 he1 hg1
      rw [hg1] at b3
      generalize w.bestL w.bs.length w.full = m at *
      generalize y.bestL y.bs.length y.full = my at *
      generalize z.bestL z.bs.length z.full = mz at *
      have n7 : ¬ (y.tal false y.full).2 < (w.tal false w.full).2 := by omega
      clear hcan hcan' he2 hg2
      have hm1 : m.length ≤ 1000 := by omega
      have pok : elemsOk 2 true (m.map Pc.av) = true := by
        have key : ∀ l : List Pc, elemsOk 2 true (l.map Pc.av) = true := fun l => by
          induction l with
          | nil => rfl
          | cons x r ih => simp only [List.map_cons, elemsOk, ih, Bool.and_true]; rfl
        exact key _
      have he4 := fun (o0 o1 o2 o3 : AO) (G : Heap) => (show elems (H ++ (o0 :: o1 :: o2 :: o3 :: .grow 2 (m.map Pc.av) :: G)) (.gsl (H.length + 4) m.length) = some (m.map Pc.av) from by simp [elems, get_at'])
      have hK := fun G : Heap => (show addElem G 2 true (.sl true []) (m.map Pc.av) = some (.gsl G.length m.length, G ++ [.grow 2 (m.map Pc.av)]) from by
        rw [add_full (H := G) (sz := 2) (a := true) (xs := []) (ys := m.map Pc.av) rfl rfl pok (ltL_map (fun _ => rfl) _) (by simp; omega) rfl]
        simp)
      have r0 := fun (o0 o1 o2 o3 o4 o5 o6 o7 o8 : AO) => ref_Same (H := H ++ [o0, o1, o2, o3, o4, o5, o6, o7, o8, .grow 2 (m.map Pc.av), .grow 2 (m.map Pc.av)]) (v1 := .gsl (H.length + 10) m.length) (v2 := .gsl (H.length + 9) m.length) (xs := m) (ys := m) ⟨⟨by simp [get_at'], by simp⟩, by simp [Pc.av, AV.cells]⟩ ⟨⟨by simp [get_at'], by simp⟩, by simp [Pc.av, AV.cells]⟩ hm1 hm1
      simp only [sameP_refl0] at r0
      have w90 : w9 m 0 = m := by simp [w9]
      simp (maxSteps := 1000000) (implicitDefEqProofs := false) (disch := first | rfl | omega | assumption) only [go_sem, ltT, ltF, leT, leF, s1, s2, s3, c1, hM, r1, r2, r3, r4, r5, r6, r7, r8, b1, b2, b3, q1, q2, q3, q4, n1, n2, n3, n4, n5, n7, he4, hK, Option.map_some]
      refine w9_loop (H := H) m hm1 _ _ _ _ _ _ _ _ _ _ _ (fun E f3 f18 f19 f41 f57 => ?_) m.length 0 (by omega) _ (by rfl) (by rfl) (by rfl) (by rfl) (by rfl) (by rfl) (by rfl) (by rfl)
      simp (maxSteps := 1000000) (implicitDefEqProofs := false) (disch := first | rfl | omega | assumption) only [go_sem, ltT, ltF, leT, leF, s1, s2, s3, f3, f18, f19, f41, f57, b1, r0]
      refine cb_loop h (by omega) _ _ _ _ (fun E f3 f19 => ?_) w.bs.length 0 (by omega) _ (by exact f3) (by exact f18) (by exact f19) (by rfl) (by rfl)
      simp (maxSteps := 1000000) (implicitDefEqProofs := false) (disch := first | rfl | omega | assumption) only [go_sem, ltT, ltF, leT, leF, s1, s2, f3, f19]
      exact ca_loop h (by omega) _ w.ps.length 0 (by omega) _ (by exact f3) (by exact f19) (by rfl) (by rfl)
  · have hp2 : (d : Int).tmod 2 = 1 := by
      have e : (d : Int).tmod 2 = ((d % 2 : Nat) : Int) := rfl
      have : d % 2 = 1 := by omega
      rw [e, this]; rfl
    have hkl1 : k ≤ 1 := by omega
    have hin : i < w.n := hil
    have hpn : w.ps.length ≤ 40 := by omega
    rcases Nat.eq_zero_or_pos w.ps.length with hp0 | hp0
    · have hg0 : ¬ (0 : Int) < (w.ps.length : Int) := by omega
      simp (maxSteps := 1000000) (implicitDefEqProofs := false) (disch := first | rfl | omega | assumption) only [go_sem, ltT, ltF, leT, leF, s1, s2, s3, n1, n2, hel, e1, e2, e3, e4, wd, wd8, hp2, l4, r4, st4, hg0]
      rw [chkK_of]; rotate_left; kernel_rfl
      simp (maxSteps := 1000000) (implicitDefEqProofs := false) (disch := first | rfl | omega | assumption) only [go_sem, ltT, ltF, leT, leF, s1, s2, s3, n1, n2, hel, e1, e2, e3, e4, wd, wd8, i5, l5, r5, st5, t0b, t0a, hLl, ty4]
      refine zb_loop h ho vy ty6 _ _ (by simp [AO.lt, AV.lt, ltL, bk_lt, ap_lt]) (by simp [AO.lt, AV.lt, ltL, bk_lt, ap_lt]) _ _ (fun E f1 f3 f7 f8 f9 f10 => ?_) w.bs.length 0 (by omega) [] _ (by rfl) (by rfl) (by rfl) (by rfl) (by rfl) (by rfl) (by rfl) (by rfl)
      simp (maxSteps := 1000000) (implicitDefEqProofs := false) (disch := first | rfl | omega | assumption) only [go_sem, ltT, ltF, leT, leF, s1, s2, s3, n1, n2, f1, f3, f7, f8, f9, f10]
      refine za_loop h ho vy ty6 _ _ (by simp [AO.lt, AV.lt, ltL, bk_lt, ap_lt]) (by simp [AO.lt, AV.lt, ltL, bk_lt, ap_lt]) _ _ (fun E f1 f3 f7 f8 f9 f10 => ?_) w.ps.length 0 (by omega) [] _ (by exact f1) (by exact f3) (by exact f7) (by exact f8) (by exact f9) (by exact f10) (by rfl) (by rfl) (by rfl)
      have mn := mir_n w
      have mp : w.mir.ps.length = w.ps.length := by simp only [Wg.mir, List.length_map]
      simp (maxSteps := 1000000) (implicitDefEqProofs := false) (disch := first | rfl | omega | assumption) only [go_sem, ltT, ltF, leT, leF, s1, s2, s3, n1, n2, f1, f3, f7, f8, f9, f10, t0b, t0a, ty4, mn, mp]
      rw [chkK_of]; rotate_left; kernel_rfl
      simp (maxSteps := 1000000) (implicitDefEqProofs := false) (disch := first | rfl | omega | assumption) only [go_sem, ltT, ltF, leT, leF, s1, s2, s3, n1, n2, hel, hela, hX, hP, t0b, t0a, ty4, List.length_map]
      have eY : w.bs.set i ((w.bs.getD i bk0).setF k ⟨((w.bs.getD i bk0).fc k).lo, if ((w.bs.getD i bk0).fc k).hi + 1 < 5 then ((w.bs.getD i bk0).fc k).hi + 1 else 5, ((w.bs.getD i bk0).fc k).st⟩) = (w.rg i k).bs := rfl
      have hxo := less_ok ho 0
      have hxs := less_sub w 0
      have hps : (w.less 0).ps = w.ps := by
        have : w.ps = [] := List.eq_nil_of_length_eq_zero hp0
        simp [Wg.less, this]
      have hxl : (w.less 0).bs.length ≤ 1000 ∧ (w.less 0).ps.length ≤ 1000 := ⟨hl.1, by rw [hps]; exact hl.2⟩
      have hxA : ∀ G : Heap, WgAt (H ++ G) (w.less 0) (.sl false (w.bs.map Bk.av)) (.sl fa (w.ps.map Ap.av)) := fun G => ⟨slB _, by rw [hps]; exact h.ps.app G⟩
      simp only [eY]
      have hyo := rg_ok ho hin hkl1
      have hys := rg_sub ho hin hkl1
      have hys' := rg_sub' ho hin hkl1
      have hzo := mir_ok ho
      have hzs := mir_sub w
      have hzs' := mir_sub' w
      have he := rg_best ho hin hkl1
      have hg := mir_told ho
      have hM := fun G : Heap => law_made (h.app G) ⟨by omega, by omega⟩ (hy.app G) hyB
      have hst := made_stk (w := w) (by omega) hyB
      have hml := stk_len ho hst
      have hf := rg_length ho hin hkl1 hst
      have hwA := fun G : Heap => h.app G
      have hyl : (w.rg i k).bs.length ≤ 1000 ∧ (w.rg i k).ps.length ≤ 1000 := ⟨by show (w.bs.set i _).length ≤ 1000; rw [List.length_set]; omega, hl.2⟩
      have hyA : ∀ G : Heap, WgAt (H ++ G) (w.rg i k) (.sl false ((w.rg i k).bs.map Bk.av)) (.sl fa (w.ps.map Ap.av)) := fun G => ⟨slB _, (h.ps.app G)⟩
      have hzl : w.mir.bs.length ≤ 1000 ∧ w.mir.ps.length ≤ 1000 := ⟨by rw [mir_n]; omega, by rw [mp]; omega⟩
      have hzA : ∀ G : Heap, WgAt (H ++ G) w.mir (.sl false (w.mir.bs.map Bk.av)) (.sl false (w.mir.ps.map Ap.av)) := fun G => ⟨slB _, slA _⟩
      generalize madeL w.bs.length ws = l at *
      generalize w.rg i k = y at *
      generalize w.mir = z at *
      generalize w.less 0 = x at *
      have hcan : w.can false = true → y.can false = true ∧ z.can false = true := fun c => ⟨hys.can ho hyo c, hzs.can ho hzo c⟩
      have hcan' : (y.can false = true → w.can false = true) ∧ (z.can false = true → w.can false = true) := ⟨fun c => hys'.can hyo ho c, fun c => hzs'.can hzo ho c⟩
      obtain ⟨ha1, ha2, ha3⟩ := hxs.hol ho hxo hst
      obtain ⟨hb1, hb2, hb3⟩ := hxs.hop ho hxo
      obtain ⟨hc1, hc2, hc3⟩ := hxs.cou ho hxo
      obtain ⟨hd1, hd2, hd3⟩ := hxs.mos ho hxo
      have r1 := fun G : Heap => wr_Holds (hwA G) hl false l (by omega)
      have r2 := fun G : Heap => wr_Holds (hxA G) hxl false l (by omega)
      have r3 := fun G : Heap => wr_Hope (hwA G) hl
      have r4 := fun G : Heap => wr_Hope (hxA G) hxl
      have r5 := fun G : Heap => wr_Most (hwA G) hl
      have r6 := fun G : Heap => wr_Most (hxA G) hxl
      have r7 := fun G : Heap => wr_Count (hwA G) hl
      have r8 := fun G : Heap => wr_Count (hxA G) hxl
      have b1 := fun G : Heap => wr_Best (hwA G) hl
      have b2 := fun G : Heap => wr_Best (hyA G) hyl
      have b3 := fun G : Heap => wr_Best (hzA G) hzl
      have q1 := fun G : Heap => wr_Length (hwA G) hl false l (by omega)
      have q2 := fun G : Heap => wr_Length (hyA G) hyl false l (by omega)
      have q3 := fun G : Heap => wr_Count (hzA G) hzl
      have q4 := fun G : Heap => wr_Most (hzA G) hzl
      obtain ⟨hg1, hg2, hg3, hg4, hg5⟩ := hg
      obtain ⟨hf1, hf2, hf3, hf4⟩ := hf
      obtain ⟨he1, he2⟩ := he
      simp only [ha2] at r1
      simp only [ha3] at r2
      simp only [hb2] at r3
      simp only [hb3] at r4
      simp only [hd2] at r5
      simp only [hd3] at r6
      simp only [hc2] at r7
      simp only [hc3] at r8
      simp only [hf1] at q1
      simp only [hf2, hf3] at q2
      simp only [hg3, hc2] at q3
      simp only [hg4, hg5, hd2] at q4
      have n1 : ¬ (x.holds l).1 < (w.holds l).1 := by omega
      have n2 : ¬ x.hope.1 < w.hope.1 := by omega
      have n3 : ¬ x.most.1 < w.most.1 := by omega
      have n4 : ¬ x.count.1 < w.count.1 := by omega
      have n5 : ¬ (y.length l).1.2 < (w.length l).1.2 := by omega
      cases cw : w.can false
      · have cy : y.can false = false := by
          cases c : y.can false
          · rfl
          · rw [hcan'.1 c] at cw; cases cw
        have cz : z.can false = false := by
          cases c : z.can false
          · rfl
          · rw [hcan'.2 c] at cw; cases cw
        rw [best_no ho cw] at b1
        rw [best_no hyo cy] at b2
        rw [best_no hzo cz] at b3
        simp only [plG, plH, List.append_nil] at b1 b2 b3
        clear hcan hcan' he1 he2 hg1 hg2
        have hC := fun (G : Heap) => cb_loop (H := H) h (by omega) (.sl false (w.ps.map Ap.av)) G
        simp (maxSteps := 1000000) (implicitDefEqProofs := false) (disch := first | rfl | omega | assumption) only [go_sem, ltT, ltF, leT, leF, s1, s2, s3, c1, hM, r1, r2, r3, r4, r5, r6, r7, r8, b1, b2, b3, q1, q2, q3, q4, n1, n2, n3, n4, n5]
        have hK := fun G : Heap => (show addElem G 2 true (.sl true []) [] = some (.gsl G.length 0, G ++ [.grow 2 []]) from by simp [addElem, elemsOk, ltL, maxLenA])
        have r0 := fun (G : Heap) (o0 o1 o2 o3 o4 o5 : AO) => ref_Same (H := H ++ (o0 :: o1 :: o2 :: o3 :: o4 :: o5 :: .grow 2 (([] : List Pc).map Pc.av) :: G)) (v1 := .sl true []) (v2 := .gsl (H.length + 6) 0) (xs := []) (ys := []) (slP (b := true) []) ⟨⟨by simp [get_at'], by simp⟩, by simp⟩ (by simp) (by simp)
        simp only [List.map_nil, sameP_refl0] at r0
        simp (maxSteps := 1000000) (implicitDefEqProofs := false) (disch := first | rfl | omega | assumption) only [go_sem, ltT, ltF, leT, leF, hK, Option.map_some]
        rw [execL_inLoop]
        simp (maxSteps := 1000000) (implicitDefEqProofs := false) (disch := first | rfl | omega | assumption) only [go_sem, ltT, ltF, leT, leF, hK, b1, r0]
        refine cb_loop h (by omega) _ _ _ _ (fun E f3 f19 => ?_) w.bs.length 0 (by omega) _ (by rfl) (by rfl) (by rfl) (by rfl) (by rfl)
        simp (maxSteps := 1000000) (implicitDefEqProofs := false) (disch := first | rfl | omega | assumption) only [go_sem, ltT, ltF, leT, leF, s1, s2, f3, f19]
        exact ca_loop h (by omega) _ w.ps.length 0 (by omega) _ (by exact f3) (by exact f19) (by rfl) (by rfl)
      · obtain ⟨cy, cz⟩ := hcan cw
        obtain ⟨w1, w2, w3, w4, w5⟩ := best_is ho cw
        obtain ⟨y1, y2, y3, y4, y5⟩ := best_is hyo cy
        obtain ⟨z1, z2, z3, z4, z5⟩ := best_is hzo cz
        rw [w1] at b1 he1 hg1
        rw [y1] at b2 he1
        rw [z1] at b3 hg1
        simp only [plG, plH] at b1 b2 b3 he1 hg1
        rw [hg1] at b3
        generalize w.bestL w.bs.length w.full = m at *
        generalize y.bestL y.bs.length y.full = my at *
        generalize z.bestL z.bs.length z.full = mz at *
        have n7 : ¬ (y.tal false y.full).2 < (w.tal false w.full).2 := by omega
        clear hcan hcan' he2 hg2
        have hm1 : m.length ≤ 1000 := by omega
        have pok : elemsOk 2 true (m.map Pc.av) = true := by
          have key : ∀ l : List Pc, elemsOk 2 true (l.map Pc.av) = true := fun l => by
            induction l with
            | nil => rfl
            | cons x r ih => simp only [List.map_cons, elemsOk, ih, Bool.and_true]; rfl
          exact key _
        have he4 := fun (o0 o1 o2 o3 : AO) (G : Heap) => (show elems (H ++ (o0 :: o1 :: o2 :: o3 :: .grow 2 (m.map Pc.av) :: G)) (.gsl (H.length + 4) m.length) = some (m.map Pc.av) from by simp [elems, get_at'])
        have hK := fun G : Heap => (show addElem G 2 true (.sl true []) (m.map Pc.av) = some (.gsl G.length m.length, G ++ [.grow 2 (m.map Pc.av)]) from by
          rw [add_full (H := G) (sz := 2) (a := true) (xs := []) (ys := m.map Pc.av) rfl rfl pok (ltL_map (fun _ => rfl) _) (by simp; omega) rfl]
          simp)
        have r0 := fun (o0 o1 o2 o3 o4 o5 o6 o7 o8 : AO) => ref_Same (H := H ++ [o0, o1, o2, o3, o4, o5, o6, o7, o8, .grow 2 (m.map Pc.av), .grow 2 (m.map Pc.av)]) (v1 := .gsl (H.length + 10) m.length) (v2 := .gsl (H.length + 9) m.length) (xs := m) (ys := m) ⟨⟨by simp [get_at'], by simp⟩, by simp [Pc.av, AV.cells]⟩ ⟨⟨by simp [get_at'], by simp⟩, by simp [Pc.av, AV.cells]⟩ hm1 hm1
        simp only [sameP_refl0] at r0
        have w90 : w9 m 0 = m := by simp [w9]
        simp (maxSteps := 1000000) (implicitDefEqProofs := false) (disch := first | rfl | omega | assumption) only [go_sem, ltT, ltF, leT, leF, s1, s2, s3, c1, hM, r1, r2, r3, r4, r5, r6, r7, r8, b1, b2, b3, q1, q2, q3, q4, n1, n2, n3, n4, n5, n7, he4, hK, Option.map_some]
        refine w9_loop (H := H) m hm1 _ _ _ _ _ _ _ _ _ _ _ (fun E f3 f18 f19 f41 f57 => ?_) m.length 0 (by omega) _ (by rfl) (by rfl) (by rfl) (by rfl) (by rfl) (by rfl) (by rfl) (by rfl)
        simp (maxSteps := 1000000) (implicitDefEqProofs := false) (disch := first | rfl | omega | assumption) only [go_sem, ltT, ltF, leT, leF, s1, s2, s3, f3, f18, f19, f41, f57, b1, r0]
        refine cb_loop h (by omega) _ _ _ _ (fun E f3 f19 => ?_) w.bs.length 0 (by omega) _ (by exact f3) (by exact f18) (by exact f19) (by rfl) (by rfl)
        simp (maxSteps := 1000000) (implicitDefEqProofs := false) (disch := first | rfl | omega | assumption) only [go_sem, ltT, ltF, leT, leF, s1, s2, f3, f19]
        exact ca_loop h (by omega) _ w.ps.length 0 (by omega) _ (by exact f3) (by exact f19) (by rfl) (by rfl)
    · obtain ⟨j, hj⟩ : ∃ j, d % w.ps.length = j := ⟨_, rfl⟩
      have hjl : j < w.ps.length := by rw [← hj]; exact Nat.mod_lt _ hp0
      have hg0 : (0 : Int) < (w.ps.length : Int) := by omega
      have e5 : (d : Int).tmod (w.ps.length : Int) = (j : Int) := by rw [← hj]; rfl
      have e6 : ¬ (w.ps.length : Int) = 0 := by omega
      simp (maxSteps := 1000000) (implicitDefEqProofs := false) (disch := first | rfl | omega | assumption) only [go_sem, ltT, ltF, leT, leF, s1, s2, s3, n1, n2, hel, e1, e2, e3, e4, wd, wd8, hp2, l4, r4, st4, hg0, e5, e6]
      rw [chkK_of]; rotate_left; kernel_rfl
      simp (maxSteps := 1000000) (implicitDefEqProofs := false) (disch := first | rfl | omega | assumption) only [go_sem, ltT, ltF, leT, leF, s1, s2, s3, n1, n2, hel, e1, e2, e3, e4, wd, wd8, hp2, l4, r4, st4, hg0, e5, e6]
      have hall : ((List.map Ap.av w.ps).all fun v => v.cells.length == 2) = true := by simp [Ap.av, AV.cells]
      have hE := fun (G : Heap) (f : Bool) (xs : List AV) => (show elems G (.sl f xs) = some xs from rfl)
      have t1 : elemsOk 2 true (List.take j (w.ps.map Ap.av)) = true := by rw [← List.map_take]; exact apOk _
      have t2 : elemsOk 2 true (List.drop (j + 1) (w.ps.map Ap.av)) = true := by rw [← List.map_drop]; exact apOk _
      have t3 : ltL 0 (List.take j (w.ps.map Ap.av)) = true := by rw [← List.map_take]; exact ap_lt 0 _
      have t4 : ltL 0 (List.drop (j + 1) (w.ps.map Ap.av)) = true := by rw [← List.map_drop]; exact ap_lt 0 _
      have hA1 : ∀ o0 o1 o2 o3 o4 o5 : AO, addElem (H ++ [o0, o1, o2, o3, o4, o5]) 2 true (.sl true []) (List.take j (w.ps.map Ap.av)) = some (.gsl (H.length + 6) j, H ++ [o0, o1, o2, o3, o4, o5, .grow 2 (List.take j (w.ps.map Ap.av))]) := by
        intro o0 o1 o2 o3 o4 o5
        rw [add_full (H := H ++ [o0, o1, o2, o3, o4, o5]) (sz := 2) (a := true) (xs := []) rfl rfl t1 t3 (by simp; omega) rfl]
        simp; omega
      have hlen : (w.less j).ps.length = w.ps.length - 1 := by simp [Wg.less]; omega
      have hA2 : ∀ o0 o1 o2 o3 o4 o5 : AO, addElem (H ++ [o0, o1, o2, o3, o4, o5, .grow 2 (List.take j (w.ps.map Ap.av))]) 2 true (.gsl (H.length + 6) j) (List.drop (j + 1) (w.ps.map Ap.av)) = some (.gsl (H.length + 6) (w.less j).ps.length, H ++ [o0, o1, o2, o3, o4, o5, .grow 2 ((w.less j).ps.map Ap.av)]) := by
        intro o0 o1 o2 o3 o4 o5
        rw [add_gsl (xs := List.take j (w.ps.map Ap.av)) (by rw [get_at']; rfl) (by simp; omega) t2 t4 (by simp; omega), hlen, set_at']
        simp [Wg.less]; omega
      have eT : List.take w.ps.length (w.ps.map Ap.av) = w.ps.map Ap.av := List.take_of_length_le (by simp)
      have eJ : ((j : Int) + 1).toNat = j + 1 := by omega
      simp (maxSteps := 1000000) (implicitDefEqProofs := false) (disch := first | rfl | omega | assumption) only [go_sem, ltT, ltF, leT, leF, s1, s2, s3, n1, n2, hel, e1, e2, e3, e4, wd, wd8, hp2, l4, r4, st4, hg0, e5, e6, hall, hE, hA1, hA2, eT, eJ, if_true]
      rw [chkK_of]; rotate_left; kernel_rfl
      simp (maxSteps := 1000000) (implicitDefEqProofs := false) (disch := first | rfl | omega | assumption) only [go_sem, ltT, ltF, leT, leF, s1, s2, s3, n1, n2, hel, e1, e2, e3, e4, wd, wd8, i5, l5, r5, st5, t0b, t0a, hLl, ty4]
      refine zb_loop h ho vy ty6 _ _ (by simp [AO.lt, AV.lt, ltL, bk_lt, ap_lt]) (by simp [AO.lt, AV.lt, ltL, bk_lt, ap_lt]) _ _ (fun E f1 f3 f7 f8 f9 f10 => ?_) w.bs.length 0 (by omega) [] _ (by rfl) (by rfl) (by rfl) (by rfl) (by rfl) (by rfl) (by rfl) (by rfl)
      simp (maxSteps := 1000000) (implicitDefEqProofs := false) (disch := first | rfl | omega | assumption) only [go_sem, ltT, ltF, leT, leF, s1, s2, s3, n1, n2, f1, f3, f7, f8, f9, f10]
      refine za_loop h ho vy ty6 _ _ (by simp [AO.lt, AV.lt, ltL, bk_lt, ap_lt]) (by simp [AO.lt, AV.lt, ltL, bk_lt, ap_lt]) _ _ (fun E f1 f3 f7 f8 f9 f10 => ?_) w.ps.length 0 (by omega) [] _ (by exact f1) (by exact f3) (by exact f7) (by exact f8) (by exact f9) (by exact f10) (by rfl) (by rfl) (by rfl)
      have mn := mir_n w
      have mp : w.mir.ps.length = w.ps.length := by simp only [Wg.mir, List.length_map]
      simp (maxSteps := 1000000) (implicitDefEqProofs := false) (disch := first | rfl | omega | assumption) only [go_sem, ltT, ltF, leT, leF, s1, s2, s3, n1, n2, f1, f3, f7, f8, f9, f10, t0b, t0a, ty4, mn, mp]
      rw [chkK_of]; rotate_left; kernel_rfl
      simp (maxSteps := 1000000) (implicitDefEqProofs := false) (disch := first | rfl | omega | assumption) only [go_sem, ltT, ltF, leT, leF, s1, s2, s3, n1, n2, hel, hela, hX, hP, t0b, t0a, ty4, List.length_map]
      have eY : w.bs.set i ((w.bs.getD i bk0).setF k ⟨((w.bs.getD i bk0).fc k).lo, if ((w.bs.getD i bk0).fc k).hi + 1 < 5 then ((w.bs.getD i bk0).fc k).hi + 1 else 5, ((w.bs.getD i bk0).fc k).st⟩) = (w.rg i k).bs := rfl
      have hxo := less_ok ho j
      have hxs := less_sub w j
      have hxl : (w.less j).bs.length ≤ 1000 ∧ (w.less j).ps.length ≤ 1000 := ⟨hl.1, by omega⟩
      have hxA : ∀ G : Heap, WgAt (H ++ G) (w.less j) (.sl false (w.bs.map Bk.av)) (.sl false ((w.less j).ps.map Ap.av)) := fun G => ⟨slB _, slA _⟩
      simp only [eY]
      have hyo := rg_ok ho hin hkl1
      have hys := rg_sub ho hin hkl1
      have hys' := rg_sub' ho hin hkl1
      have hzo := mir_ok ho
      have hzs := mir_sub w
      have hzs' := mir_sub' w
      have he := rg_best ho hin hkl1
      have hg := mir_told ho
      have hM := fun G : Heap => law_made (h.app G) ⟨by omega, by omega⟩ (hy.app G) hyB
      have hst := made_stk (w := w) (by omega) hyB
      have hml := stk_len ho hst
      have hf := rg_length ho hin hkl1 hst
      have hwA := fun G : Heap => h.app G
      have hyl : (w.rg i k).bs.length ≤ 1000 ∧ (w.rg i k).ps.length ≤ 1000 := ⟨by show (w.bs.set i _).length ≤ 1000; rw [List.length_set]; omega, hl.2⟩
      have hyA : ∀ G : Heap, WgAt (H ++ G) (w.rg i k) (.sl false ((w.rg i k).bs.map Bk.av)) (.sl fa (w.ps.map Ap.av)) := fun G => ⟨slB _, (h.ps.app G)⟩
      have hzl : w.mir.bs.length ≤ 1000 ∧ w.mir.ps.length ≤ 1000 := ⟨by rw [mir_n]; omega, by rw [mp]; omega⟩
      have hzA : ∀ G : Heap, WgAt (H ++ G) w.mir (.sl false (w.mir.bs.map Bk.av)) (.sl false (w.mir.ps.map Ap.av)) := fun G => ⟨slB _, slA _⟩
      generalize madeL w.bs.length ws = l at *
      generalize w.rg i k = y at *
      generalize w.mir = z at *
      generalize w.less j = x at *
      have hcan : w.can false = true → y.can false = true ∧ z.can false = true := fun c => ⟨hys.can ho hyo c, hzs.can ho hzo c⟩
      have hcan' : (y.can false = true → w.can false = true) ∧ (z.can false = true → w.can false = true) := ⟨fun c => hys'.can hyo ho c, fun c => hzs'.can hzo ho c⟩
      obtain ⟨ha1, ha2, ha3⟩ := hxs.hol ho hxo hst
      obtain ⟨hb1, hb2, hb3⟩ := hxs.hop ho hxo
      obtain ⟨hc1, hc2, hc3⟩ := hxs.cou ho hxo
      obtain ⟨hd1, hd2, hd3⟩ := hxs.mos ho hxo
      have r1 := fun G : Heap => wr_Holds (hwA G) hl false l (by omega)
      have r2 := fun G : Heap => wr_Holds (hxA G) hxl false l (by omega)
      have r3 := fun G : Heap => wr_Hope (hwA G) hl
      have r4 := fun G : Heap => wr_Hope (hxA G) hxl
      have r5 := fun G : Heap => wr_Most (hwA G) hl
      have r6 := fun G : Heap => wr_Most (hxA G) hxl
      have r7 := fun G : Heap => wr_Count (hwA G) hl
      have r8 := fun G : Heap => wr_Count (hxA G) hxl
      have b1 := fun G : Heap => wr_Best (hwA G) hl
      have b2 := fun G : Heap => wr_Best (hyA G) hyl
      have b3 := fun G : Heap => wr_Best (hzA G) hzl
      have q1 := fun G : Heap => wr_Length (hwA G) hl false l (by omega)
      have q2 := fun G : Heap => wr_Length (hyA G) hyl false l (by omega)
      have q3 := fun G : Heap => wr_Count (hzA G) hzl
      have q4 := fun G : Heap => wr_Most (hzA G) hzl
      obtain ⟨hg1, hg2, hg3, hg4, hg5⟩ := hg
      obtain ⟨hf1, hf2, hf3, hf4⟩ := hf
      obtain ⟨he1, he2⟩ := he
      simp only [ha2] at r1
      simp only [ha3] at r2
      simp only [hb2] at r3
      simp only [hb3] at r4
      simp only [hd2] at r5
      simp only [hd3] at r6
      simp only [hc2] at r7
      simp only [hc3] at r8
      simp only [hf1] at q1
      simp only [hf2, hf3] at q2
      simp only [hg3, hc2] at q3
      simp only [hg4, hg5, hd2] at q4
      have n1 : ¬ (x.holds l).1 < (w.holds l).1 := by omega
      have n2 : ¬ x.hope.1 < w.hope.1 := by omega
      have n3 : ¬ x.most.1 < w.most.1 := by omega
      have n4 : ¬ x.count.1 < w.count.1 := by omega
      have n5 : ¬ (y.length l).1.2 < (w.length l).1.2 := by omega
      cases cw : w.can false
      · have cy : y.can false = false := by
          cases c : y.can false
          · rfl
          · rw [hcan'.1 c] at cw; cases cw
        have cz : z.can false = false := by
          cases c : z.can false
          · rfl
          · rw [hcan'.2 c] at cw; cases cw
        rw [best_no ho cw] at b1
        rw [best_no hyo cy] at b2
        rw [best_no hzo cz] at b3
        simp only [plG, plH, List.append_nil] at b1 b2 b3
        clear hcan hcan' he1 he2 hg1 hg2
        have hC := fun (G : Heap) => cb_loop (H := H) h (by omega) (.sl false (w.ps.map Ap.av)) G
        simp (maxSteps := 1000000) (implicitDefEqProofs := false) (disch := first | rfl | omega | assumption) only [go_sem, ltT, ltF, leT, leF, s1, s2, s3, c1, hM, r1, r2, r3, r4, r5, r6, r7, r8, b1, b2, b3, q1, q2, q3, q4, n1, n2, n3, n4, n5]
        have hK := fun G : Heap => (show addElem G 2 true (.sl true []) [] = some (.gsl G.length 0, G ++ [.grow 2 []]) from by simp [addElem, elemsOk, ltL, maxLenA])
        have r0 := fun (G : Heap) (o0 o1 o2 o3 o4 o5 : AO) => ref_Same (H := H ++ (o0 :: o1 :: o2 :: o3 :: o4 :: o5 :: .grow 2 (([] : List Pc).map Pc.av) :: G)) (v1 := .sl true []) (v2 := .gsl (H.length + 6) 0) (xs := []) (ys := []) (slP (b := true) []) ⟨⟨by simp [get_at'], by simp⟩, by simp⟩ (by simp) (by simp)
        simp only [List.map_nil, sameP_refl0] at r0
        simp (maxSteps := 1000000) (implicitDefEqProofs := false) (disch := first | rfl | omega | assumption) only [go_sem, ltT, ltF, leT, leF, hK, Option.map_some]
        rw [execL_inLoop]
        simp (maxSteps := 1000000) (implicitDefEqProofs := false) (disch := first | rfl | omega | assumption) only [go_sem, ltT, ltF, leT, leF, hK, b1, r0]
        refine cb_loop h (by omega) _ _ _ _ (fun E f3 f19 => ?_) w.bs.length 0 (by omega) _ (by rfl) (by rfl) (by rfl) (by rfl) (by rfl)
        simp (maxSteps := 1000000) (implicitDefEqProofs := false) (disch := first | rfl | omega | assumption) only [go_sem, ltT, ltF, leT, leF, s1, s2, f3, f19]
        exact ca_loop h (by omega) _ w.ps.length 0 (by omega) _ (by exact f3) (by exact f19) (by rfl) (by rfl)
      · obtain ⟨cy, cz⟩ := hcan cw
        obtain ⟨w1, w2, w3, w4, w5⟩ := best_is ho cw
        obtain ⟨y1, y2, y3, y4, y5⟩ := best_is hyo cy
        obtain ⟨z1, z2, z3, z4, z5⟩ := best_is hzo cz
        rw [w1] at b1 he1 hg1
        rw [y1] at b2 he1
        rw [z1] at b3 hg1
        simp only [plG, plH] at b1 b2 b3 he1 hg1
        rw [hg1] at b3
        generalize w.bestL w.bs.length w.full = m at *
        generalize y.bestL y.bs.length y.full = my at *
        generalize z.bestL z.bs.length z.full = mz at *
        have n7 : ¬ (y.tal false y.full).2 < (w.tal false w.full).2 := by omega
        clear hcan hcan' he2 hg2
        have hm1 : m.length ≤ 1000 := by omega
        have pok : elemsOk 2 true (m.map Pc.av) = true := by
          have key : ∀ l : List Pc, elemsOk 2 true (l.map Pc.av) = true := fun l => by
            induction l with
            | nil => rfl
            | cons x r ih => simp only [List.map_cons, elemsOk, ih, Bool.and_true]; rfl
          exact key _
        have he4 := fun (o0 o1 o2 o3 : AO) (G : Heap) => (show elems (H ++ (o0 :: o1 :: o2 :: o3 :: .grow 2 (m.map Pc.av) :: G)) (.gsl (H.length + 4) m.length) = some (m.map Pc.av) from by simp [elems, get_at'])
        have hK := fun G : Heap => (show addElem G 2 true (.sl true []) (m.map Pc.av) = some (.gsl G.length m.length, G ++ [.grow 2 (m.map Pc.av)]) from by
          rw [add_full (H := G) (sz := 2) (a := true) (xs := []) (ys := m.map Pc.av) rfl rfl pok (ltL_map (fun _ => rfl) _) (by simp; omega) rfl]
          simp)
        have r0 := fun (o0 o1 o2 o3 o4 o5 o6 o7 o8 : AO) => ref_Same (H := H ++ [o0, o1, o2, o3, o4, o5, o6, o7, o8, .grow 2 (m.map Pc.av), .grow 2 (m.map Pc.av)]) (v1 := .gsl (H.length + 10) m.length) (v2 := .gsl (H.length + 9) m.length) (xs := m) (ys := m) ⟨⟨by simp [get_at'], by simp⟩, by simp [Pc.av, AV.cells]⟩ ⟨⟨by simp [get_at'], by simp⟩, by simp [Pc.av, AV.cells]⟩ hm1 hm1
        simp only [sameP_refl0] at r0
        have w90 : w9 m 0 = m := by simp [w9]
        simp (maxSteps := 1000000) (implicitDefEqProofs := false) (disch := first | rfl | omega | assumption) only [go_sem, ltT, ltF, leT, leF, s1, s2, s3, c1, hM, r1, r2, r3, r4, r5, r6, r7, r8, b1, b2, b3, q1, q2, q3, q4, n1, n2, n3, n4, n5, n7, he4, hK, Option.map_some]
        refine w9_loop (H := H) m hm1 _ _ _ _ _ _ _ _ _ _ _ (fun E f3 f18 f19 f41 f57 => ?_) m.length 0 (by omega) _ (by rfl) (by rfl) (by rfl) (by rfl) (by rfl) (by rfl) (by rfl) (by rfl)
        simp (maxSteps := 1000000) (implicitDefEqProofs := false) (disch := first | rfl | omega | assumption) only [go_sem, ltT, ltF, leT, leF, s1, s2, s3, f3, f18, f19, f41, f57, b1, r0]
        refine cb_loop h (by omega) _ _ _ _ (fun E f3 f19 => ?_) w.bs.length 0 (by omega) _ (by exact f3) (by exact f18) (by exact f19) (by rfl) (by rfl)
        simp (maxSteps := 1000000) (implicitDefEqProofs := false) (disch := first | rfl | omega | assumption) only [go_sem, ltT, ltF, leT, leF, s1, s2, f3, f19]
        exact ca_loop h (by omega) _ w.ps.length 0 (by omega) _ (by exact f3) (by exact f19) (by rfl) (by rfl)

end Go.Ab
/-
  WringMore, for a wring that is handed in.
-/
namespace Go.Ab
open Go.Proofs
set_option linter.unusedSimpArgs false
set_option linter.unusedVariables false
set_option maxRecDepth 100000
set_option maxHeartbeats 2000000

variable {H : Heap}


theorem sl_of {sz : Nat} {v : AV} {xs : List AV} (h : SlOk [] sz v xs) : ∃ f, v = .sl f xs := by
  obtain ⟨h1, _⟩ := h
  cases v <;> simp only at h1 <;> first | (exact h1.elim) | skip
  · exact ⟨_, by rw [h1]⟩
  · simp at h1

theorem law_WringMoreA {w : Wg} {vb va : AV} (h : WgAt [] w vb va) {vy : AV} {ws : List Int} (hy : SlOk [] 1 vy (ws.map B8)) (hyB : ByOk ws) (c : Int) (hc : 0 ≤ c ∧ c ≤ 255) :
    callFL cfg0 prog0 false 12 [.agg [vb, va], vy, .int .u8 c] [] none = some ⟨.ret (.bool true), [], none⟩ := by
  obtain ⟨fb, rfl⟩ := sl_of h.bs
  obtain ⟨fa, rfl⟩ := sl_of h.ps
  exact law_WringMore h hy hyB c hc

end Go.Ab
