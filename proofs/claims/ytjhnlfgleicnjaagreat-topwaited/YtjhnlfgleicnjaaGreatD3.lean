/- A region that asks for an order: what its table says. -/
import Derived.Test.YtjhnlfgleicnjaaGreatD2
import Derived.Orders
namespace Go.Ab
set_option linter.unusedSimpArgs false
set_option linter.unusedVariables false
section
variable {C:Cfg} {P:Program} {B:Nat} {F:FI}
theorem aheads_old:∀ (l:List Oper) (acc:List (List Nat)) (i:Nat),i<acc.length→(aheads l acc).getD i []=acc.getD i []
 | [],_,_,_=>rfl
 | o::r,acc,i,h=>by
  simp only [aheads]
  rw [aheads_old r _ i (by simp;omega)]
  simp [List.getD_eq_getElem?_getD,List.getElem?_append_left h]
theorem mem_addN {x:Nat}:∀ (l s:List Nat),x∈addN l s→x∈l∨x∈s
 | [],s,h=>.inr h
 | y::l,s,h=>by
  simp only [addN] at h
  split at h
  ·rcases mem_addN l s h with h | h
   ·exact .inl (List.mem_cons_of_mem _ h)
   ·exact .inr h
  ·rcases mem_addN l (y::s) h with h | h
   ·exact .inl (List.mem_cons_of_mem _ h)
   ·rcases List.mem_cons.1 h with h | h
    ·exact .inl (by rw [h];exact List.mem_cons_self)
    ·exact .inr h
theorem mem_fold (acc:List (List Nat)) (x:Nat):∀ (L:List Nat) (s:List Nat),x∈L.foldl (fun s j=>addN (j::acc.getD j []) s) s→x∈s∨∃ e∈L,x=e∨x∈acc.getD e []
 | [],s,h=>.inl h
 | e::L,s,h=>by
  simp only [List.foldl_cons] at h
  rcases mem_fold acc x L _ h with h | ⟨e',h1,h2⟩
  ·rcases mem_addN _ _ h with h | h
   ·rcases List.mem_cons.1 h with h | h
    ·exact .inr ⟨e,by simp,.inl h⟩
    ·exact .inr ⟨e,by simp,.inr h⟩
   ·exact .inl h
  ·exact .inr ⟨e',by simp [h1],h2⟩
theorem aheads_new:∀ (l:List Oper) (acc:List (List Nat)) (j:Nat),acc.length≤j→j<acc.length+l.length→∀ x∈(aheads l acc).getD j [],
  ∃ o,l[j-acc.length]? = some o∧∃ e∈o.after.toList,Region.binds .any e=true∧(x=e.on∨x∈(aheads l acc).getD e.on [])
 | [],acc,j,h1,h2,_,_=>by simp at h2;omega
 | o::r,acc,j,h1,h2,x,hx=>by
  simp only [aheads] at hx ⊢
  by_cases hj:j=acc.length
  ·subst hj
   rw [aheads_old _ _ _ (by simp)] at hx
   simp only [List.getD_eq_getElem?_getD,List.getElem?_append_right (Nat.le_refl _),Nat.sub_self,List.getElem?_cons_zero,Option.getD_some] at hx
   rcases mem_fold acc x _ _ hx with hx | ⟨e,he,hx⟩
   ·simp at hx
   ·simp only [List.mem_filterMap] at he
    obtain ⟨ed,he1,he2⟩:=he
    split at he2
    ·rename_i hb
     cases he2
     refine ⟨o,by simp,ed,he1,hb,hx.imp id fun hx=>?_⟩
     by_cases hlt:ed.on<acc.length
     ·rw [aheads_old _ _ _ (by simp;omega)]
      simpa [List.getD_eq_getElem?_getD,List.getElem?_append_left hlt] using hx
     ·rw [List.getD_eq_getElem?_getD,List.getElem?_eq_none (by omega)] at hx
      simp at hx
    ·cases he2
  ·obtain ⟨o',h3,h4⟩:=aheads_new r (acc++[_]) j (by simp;omega) (by simp at h2 ⊢;omega) x hx
   refine ⟨o',?_,h4⟩
   simp only [List.length_append,List.length_cons,List.length_nil,Nat.zero_add] at h3
   rw [show j-acc.length=(j-(acc.length+1))+1 by omega]
   simpa using h3
theorem planRow_get {all:List Oper} {ah:List (List Nat)} {ps:List (Nat×Nat)} {j:Nat} {b:Oper}:∀ (l:List Oper) (i k:Nat) (a:Oper),planRow all ah ps j b i l=true→l[k]? = some a→i+k<j→pairFine all ah ps (i+k) j a b=true
 | [],_,_,_,_,h,_=>by simp at h
 | o::r,i,k,a,h,hk,hlt=>by
  simp only [planRow] at h
  rw [if_pos (by omega)] at h
  simp only [Bool.and_eq_true] at h
  cases k with
  | zero=>simp at hk;subst hk;exact h.1
  | succ k =>
   have:=planRow_get r (i+1) k a h.2 (by simpa using hk) (by omega)
   rwa [show i+1+k=i+(k+1) by omega] at this
theorem planRows_get {all:List Oper} {ah:List (List Nat)} {ps:List (Nat×Nat)}:∀ (l:List Oper) (j k:Nat) (b:Oper),planRows all ah ps j l=true→l[k]? = some b →
  (∀ e∈b.after.toList,Region.binds .any e=true→e.on<j+k)∧planRow all ah ps (j+k) b 0 all=true
 | [],_,_,_,_,h=>by simp at h
 | o::r,j,k,b,h,hk=>by
  simp only [planRows,Bool.and_eq_true,List.all_eq_true,Bool.or_eq_true,Bool.not_eq_true',decide_eq_true_eq] at h
  cases k with
  | zero =>
   simp at hk;subst hk
   refine ⟨fun e he hb=>?_,h.2.1⟩
   rcases h.1 e he with h' | h'
   ·rw [hb] at h';cases h'
   ·simpa using h'
  | succ k =>
   obtain ⟨h1,h2⟩:=planRows_get r (j+1) k b h.2.2 (by simpa using hk)
   rw [show j+1+k=j+(k+1) by omega] at h1 h2
   exact ⟨h1,h2⟩
def Prog (m:Region.Mode) (opl:Array Oper):Prop:=∃ rank:Nat→Nat,∀ (j:Nat) (o:Oper),opl.toList[j]? = some o→∀ e∈o.after.toList,Region.binds m e=true→e.on<opl.size∧rank e.on<rank j
theorem prog_of {m:Region.Mode} {opl:Array Oper} {ord:List Nat} (h:ranked m opl ord=true):Prog m opl:=by
 refine ⟨fun i=>ord.idxOf i,fun j o ho e he hb=>?_⟩
 simp only [ranked,List.all_eq_true,List.mem_range] at h
 have hj:j<opl.size:=by simpa using (List.getElem?_eq_some_iff.1 ho).1
 have h1:=h j hj
 rw [Array.getElem?_toList] at ho
 rw [ho] at h1
 simp only [List.all_eq_true,Bool.or_eq_true,Bool.not_eq_true',Bool.and_eq_true,decide_eq_true_eq] at h1
 rcases h1 e he with h2 | h2
 ·rw [hb] at h2;cases h2
 ·exact h2
structure Plan (P:Program) (opl:Array Oper) (ps:List (Nat×Nat)) (A:Nat→Nat→Prop):Prop where
 sched:∀ t,∃ m t',Region.schedule (P.follows .mixedOrders) opl t=Region.linearise m opl t'∧Prog m opl
 edge:∀ (j:Nat) (o:Oper),opl.toList[j]? = some o→∀ e∈o.after.toList,Region.binds .any e=true→e.on<j
 ahead:∀ (j:Nat) (o:Oper),opl.toList[j]? = some o→∀ x,A x j→∃ e∈o.after.toList,Region.binds .any e=true∧(x=e.on∨A x e.on)
 dead:∀ (i j:Nat),hasPr ps j (1000+i)=true→A i j
 pair:∀ (i j:Nat) (a b:Oper),i<j→opl.toList[i]? = some a→opl.toList[j]? = some b→A i j ∨
  (¬ (zAl a.op=true∧zAl b.op=true)∧(∀ d,a.dst=some d→d ∉ zBl opl.toList b)∧(∀ d,b.dst=some d→d ∉ zBl opl.toList a) ∧
   (readsOf a.op=true→zAl b.op=true→(i,j)∈ps)∧(zAl a.op=true→readsOf b.op=true→(j,i)∈ps))
theorem dead_get {ah:List (List Nat)}:∀ (ps:List (Nat×Nat)) (i j:Nat),deadOk ah ps=true→hasPr ps j (1000+i)=true→i∈ah.getD j []
 | [],_,_,_,h=>by simp [hasPr] at h
 | (a,b)::r,i,j,hd,h=>by
  simp only [deadOk,Bool.and_eq_true,Bool.or_eq_true,decide_eq_true_eq,List.contains_iff_mem] at hd
  simp only [hasPr,Bool.or_eq_true,Bool.and_eq_true,beq_iff_eq] at h
  rcases h with ⟨rfl,rfl⟩ | h
  ·rcases hd.1 with h1 | h1
   ·omega
   ·simpa using h1
  ·exact dead_get r i j hd.2 h
theorem plan_of {opl:Array Oper} {ps:List (Nat×Nat)} (h:planOk P opl ps=true):Plan P opl ps (fun x j=>x∈(aheads opl.toList []).getD j []):=by
 simp only [planOk,Bool.and_eq_true] at h
 obtain ⟨h1,h3,h2⟩:=h
 refine ⟨?_,?_,?_,?_,?_⟩
 ·intro t
  by_cases hm:(P.follows .mixedOrders||!Region.departs opl)=true
  ·refine ⟨.any,t,by simp only [Region.schedule];rw [if_pos hm],id,fun j o ho e he hb=>?_⟩
   have h3:=(planRows_get _ 0 j o h2 ho).1 e he hb
   have hj:j<opl.size:=by simpa using (List.getElem?_eq_some_iff.1 ho).1
   rw [Nat.zero_add] at h3
   exact ⟨Nat.lt_trans h3 hj,h3⟩
  ·simp only [hm,Bool.false_or,Bool.and_eq_true,Bool.or_eq_true,false_or] at h1
   have hm':(P.follows .mixedOrders||!Region.departs opl)=false:=by simpa using hm
   simp only [Region.schedule]
   rw [if_neg hm]
   by_cases ht:(t%2==0)=true
   ·exact ⟨.text,t/2,by rw [if_pos ht],prog_of h1.1⟩
   ·exact ⟨.gc,t/2,by rw [if_neg ht],prog_of h1.2⟩
 ·intro j o ho
  have:=(planRows_get _ 0 j o h2 ho).1
  simpa using this
 ·intro j o ho x hx
  have hlt:=(List.getElem?_eq_some_iff.1 ho).1
  obtain ⟨o',h3,h4⟩:=aheads_new opl.toList [] j (by simp) (by simpa using hlt) x hx
  simp only [List.length_nil,Nat.sub_zero] at h3
  rw [ho] at h3
  cases h3
  exact h4
 ·intro i j h
  exact dead_get _ _ _ h3 h
 ·intro i j a b hij ha hb
  have h3:=(planRows_get _ 0 j b h2 hb).2
  rw [Nat.zero_add] at h3
  have h4:=planRow_get _ 0 i a h3 ha (by omega)
  rw [Nat.zero_add] at h4
  simp only [pairFine,Bool.or_eq_true,Bool.and_eq_true,Bool.not_eq_true',List.contains_iff_mem] at h4
  rcases h4 with h4 | ⟨⟨⟨⟨h5,h6⟩,h7⟩,h8⟩,h9⟩
  ·exact .inl h4
  ·refine .inr ⟨?_,?_,?_,?_,?_⟩
   ·rintro ⟨x,y⟩;rw [x,y] at h5;cases h5
   ·intro d hd
    rw [hd] at h6
    simpa using h6
   ·intro d hd
    rw [hd] at h7
    simpa using h7
   ·intro x y
    rcases h8 with h8 | h8
    ·rw [x,y] at h8;cases h8
    ·exact h8
   ·intro x y
    rcases h9 with h9 | h9
    ·rw [x,y] at h9;cases h9
    ·exact h9
theorem closed_ahead {opl:Array Oper} {ps:List (Nat×Nat)} {A:Nat→Nat→Prop} (p:Plan P opl ps A) {D:Nat→Prop} (hD:∀ (j:Nat) (o:Oper),opl.toList[j]? = some o→D j→∀ e∈o.after.toList,Region.binds .any e=true→D e.on) :
  ∀ (j:Nat),j<opl.size→(∀ o,opl.toList[j]? = some o→∀ e∈o.after.toList,Region.binds .any e=true→D e.on)→∀ x,A x j→D x:=by
 intro j
 induction j using Nat.strongRecOn with
 | _ j ih =>
  intro hj hr x hx
  have ho:opl.toList[j]? = some opl.toList[j]:=List.getElem?_eq_getElem (by simpa using hj)
  obtain ⟨e,he,hb,hx⟩:=p.ahead j _ ho x hx
  have hlt:=p.edge j _ ho e he hb
  have hDe:=hr _ ho e he hb
  rcases hx with rfl | hx
  ·exact hDe
  ·exact ih e.on hlt (by omega) (fun o ho=>hD e.on o ho hDe) x hx
end
end Go.Ab
