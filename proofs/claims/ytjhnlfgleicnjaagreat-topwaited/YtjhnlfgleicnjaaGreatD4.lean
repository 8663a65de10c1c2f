/- What an operation of the evaluator looks at: its operands, and at most one object. -/
import Derived.Test.YtjhnlfgleicnjaaGreatD3
namespace Go.Ab
set_option linter.unusedSimpArgs false
set_option linter.unusedVariables false
section
variable {C:Cfg} {P:Program} {F:FI} {H H':Heap} {e e':Env}
theorem map_congr_opd:∀ {l:List Operand},(∀ x∈l,opd C e x=opd C e' x)→l.map (opd C e)=l.map (opd C e')
 | [],_=>rfl
 | x::l,h=>by
  simp only [List.map_cons]
  rw [h x (by simp),map_congr_opd (fun y hy=>h y (by simp [hy]))]
theorem parts_congr:∀ {l:List (Nat×Operand)},(∀ x∈l.map (·.2),opd C e x=opd C e' x)→(l.map fun (x:Nat×Operand)=>match x with | (i,x)=>(i,opd C e x))=(l.map fun (x:Nat×Operand)=>match x with | (i,x)=>(i,opd C e' x))
 | [],_=>rfl
 | (i,x)::l,h=>by
  simp only [List.map_cons]
  rw [h x (by simp),parts_congr (fun y hy=>h y (by simp only [List.map_cons,List.mem_cons];exact .inr hy))]
theorem callee_congr {cl:Call} (h:∀ x∈cl.operands.toList,opd C e x=opd C e' x):zBi C H e cl=zBi C H e' cl:=by
 obtain ⟨callee,args,tys⟩:=cl
 have ha:args.toList.map (opd C e)=args.toList.map (opd C e'):=map_congr_opd fun x hx=>h x (by
  cases callee<;>simp only [Call.operands,Array.toList_append,List.mem_append]<;>first | exact .inr hx | exact hx)
 simp only [zBi,ha]
 cases callee with
 | builtin b=>rfl
 | invoke r n=>have:=h r (by simp [Call.operands]);simp only [this]
 | value f=>have:=h f (by simp [Call.operands]);simp only [this]
theorem evOp_congr {o:Oper} (h:∀ x∈o.op.operands.toList,opd C e x=opd C e' x):evOp C P F H e o=evOp C P F H e' o:=by
 obtain ⟨dst,op,ty0,pos,after,guard⟩:=o
 simp only at h
 cases op
 case build t ps=>simp only [evOp];rw [parts_congr (e:=e) (e':=e') (by simpa [Op.operands] using h)]
 case buildSlice t len ps=>simp only [evOp];rw [parts_congr (e:=e) (e':=e') (by simpa [Op.operands] using h)]
 case makeFunc fn first cap =>
  have h1:first.toList.map (opd C e)=first.toList.map (opd C e'):=map_congr_opd fun x hx=>h x (by simp only [Op.operands,Array.toList_append,List.mem_append];exact .inl hx)
  have h2:cap.toList.map (opd C e)=cap.toList.map (opd C e'):=map_congr_opd fun x hx=>h x (by simp only [Op.operands,Array.toList_append,List.mem_append];exact .inr hx)
  simp only [evOp,h1,h2]
 case makeMap t r=>cases r<;>rfl
 case slice t x lo hi mx =>
  cases mx with
  | some _=>rfl
  | none =>
   have h1:=h x (by simp [Op.operands])
   cases lo with
   | none =>
    cases hi with
    | none=>simp only [evOp,h1]
    | some z=>have h3:=h z (by simp [Op.operands]);simp only [evOp,h1,h3]
   | some y =>
    have h2:=h y (by simp [Op.operands])
    cases hi with
    | none=>simp only [evOp,h1,h2]
    | some z=>have h3:=h z (by simp [Op.operands]);simp only [evOp,h1,h2,h3]
 case call cl=>simp only [evOp];exact callee_congr h
 case defer cl=>simp only [evOp];rw [callee_congr (e:=e) (e':=e') h]
 case pick x y z =>
  have h1:=h x (by simp [Op.operands]);have h2:=h y (by simp [Op.operands]);have h3:=h z (by simp [Op.operands])
  simp only [evOp,h1,h2,h3]
 case mapUpdate t x y z =>
  have h1:=h x (by simp [Op.operands]);have h2:=h y (by simp [Op.operands]);have h3:=h z (by simp [Op.operands])
  simp only [evOp,h1,h2,h3]
 case insert t x y z =>
  have h1:=h x (by simp [Op.operands]);have h2:=h y (by simp [Op.operands]);have h3:=h z (by simp [Op.operands])
  simp only [evOp,h1,h2,h3]
 case mapEntry t x y =>
  have h1:=h x (by simp [Op.operands]);have h2:=h y (by simp [Op.operands])
  simp only [evOp,h1,h2]
 case entryStore t x y z =>
  have h1:=h x (by simp [Op.operands]);have h2:=h y (by simp [Op.operands]);have h3:=h z (by simp [Op.operands])
  simp only [evOp,h1,h2,h3]
 case store t x y=>have h1:=h x (by simp [Op.operands]);have h2:=h y (by simp [Op.operands]);simp only [evOp,h1,h2]
 case binOp a t x y z=>have h1:=h x (by simp [Op.operands]);have h2:=h y (by simp [Op.operands]);simp only [evOp,h1,h2]
 case makeSlice t x y=>have h1:=h x (by simp [Op.operands]);have h2:=h y (by simp [Op.operands]);simp only [evOp,h1,h2]
 case indexAddr t x y=>have h1:=h x (by simp [Op.operands]);have h2:=h y (by simp [Op.operands]);simp only [evOp,h1,h2]
 case index t x y=>have h1:=h x (by simp [Op.operands]);have h2:=h y (by simp [Op.operands]);simp only [evOp,h1,h2]
 case lookup t x y q=>have h1:=h x (by simp [Op.operands]);have h2:=h y (by simp [Op.operands]);simp only [evOp,h1,h2]
 case move x=>have h1:=h x (by simp [Op.operands]);simp only [evOp,h1]
 case assign x=>have h1:=h x (by simp [Op.operands]);simp only [evOp,h1]
 case box t x=>have h1:=h x (by simp [Op.operands]);simp only [evOp,h1]
 case load t x=>have h1:=h x (by simp [Op.operands]);simp only [evOp,h1]
 case nilCheck x=>have h1:=h x (by simp [Op.operands]);simp only [evOp,h1]
 case unOp a t x=>have h1:=h x (by simp [Op.operands]);simp only [evOp,h1]
 case convert s t x=>have h1:=h x (by simp [Op.operands]);simp only [evOp,h1]
 case makeInterface t x=>have h1:=h x (by simp [Op.operands]);simp only [evOp,h1]
 case fieldAddr t x i=>have h1:=h x (by simp [Op.operands]);simp only [evOp,h1]
 case field t x i=>have h1:=h x (by simp [Op.operands]);simp only [evOp,h1]
 case typeAssert x t t' q=>have h1:=h x (by simp [Op.operands]);simp only [evOp,h1]
 case extract x i=>have h1:=h x (by simp [Op.operands]);simp only [evOp,h1]
 case panic x=>have h1:=h x (by simp [Op.operands]);simp only [evOp,h1]
 case range t x=>have h1:=h x (by simp [Op.operands]);simp only [evOp,h1]
 case entry x=>have h1:=h x (by simp [Op.operands]);simp only [evOp,h1]
 all_goals rfl
theorem seen_obj {H H':Heap} {l:Nat} (h:seen H (.obj l)=seen H' (.obj l)):H[l]? = H'[l]? := by
 simp only [seen] at h
 cases h1:H[l]? <;> cases h2:H'[l]? <;> rw [h1,h2] at h<;>simp_all
theorem seen_key {H H':Heap} {l:Nat} {k z:AV} (h:seen H (.key l k z)=seen H' (.key l k z)) {t:TypeId} {es:List (AV×AV)} (h1:H[l]? = some (.map t es)) :
  ∃ es',H'[l]? = some (.map t es')∧(zAj k es').getD z=(zAj k es).getD z:=by
 simp only [seen,h1] at h
 split at h
 ·rename_i t' es' h2
  simp only [Seen.at.injEq] at h
  exact ⟨es',by rw [h2,h.1],h.2.symm⟩
 ·cases h
theorem sameAt_seen {a b:Heap} {q:RD} (h:sameAt a b q=true):seen b q=seen a q:=by
 cases q with
 | obj l =>
  simp only [sameAt] at h
  split at h
  ·rename_i x y hx hy
   have:=AO.same_eq h
   simp only [seen,hx,hy,this]
  ·cases h
 | key l k z =>
  simp only [sameAt] at h
  split at h
  ·rename_i t es t' es' hx hy
   simp only [Bool.and_eq_true,beq_iff_eq] at h
   simp only [seen,hx,hy,h.1,same_eq _ _ h.2]
  ·cases h
theorem readOf_reads {op:Op} {q:RD} (h:zAp C e op=some q):readsOf op=true:=by
 cases op<;>simp only [zAp] at h<;>first | rfl | (cases h;done)
theorem evLoad_local {ty:Ty} {t:TypeId} {x:Operand} (h:∀ q,zAp C e (.load t x)=some q→seen H q=seen H' q):evLoad H ty (opd C e x)=evLoad H' ty (opd C e x):=by
 simp only [zAp] at h
 cases hx:opd C e x<;>rw [hx] at h<;>simp only [evLoad]<;>rw [seen_obj (h _ rfl)]
theorem evOp_local {o:Oper} {v:AV} {H1:Heap} (he:zAl o.op=false) (ha:zAk o.op=false) (hg:∀ x,o.op=.assign x→(C.grow F.fn (o.dst.getD 0)&&zAs (opd C e x))=false) (hlm:∀ cl,o.op=.call cl→lenMap C e cl=false)
  (h:evOp C P F H e o=some (.val v H1)) (hr:∀ q,zAp C e o.op=some q→seen H q=seen H' q):H1=H∧evOp C P F H' e o=some (.val v H'):=by
 obtain ⟨dst,op,ty0,pos,after,guard⟩:=o
 simp only at he ha hg hlm hr
 cases op<;>try (simp only [zAl] at he;cases he;done)
 case alloc t=>cases ha
 case makeMap t r=>cases r with
  | none=>cases ha
  | some _=>cases he
 case assign x =>
  have hg:=hg x rfl
  simp only [evOp,hg,Bool.false_eq_true,if_false] at h ⊢
  cases h;exact ⟨rfl,rfl⟩
 case load t x =>
  simp only [evOp] at h ⊢
  split at h
  ·rename_i ty hty
   have:=evLoad_local (ty:=ty) hr
   rw [← this]
   obtain ⟨v',hv,h⟩:=Option.map_eq_some_iff.1 h
   cases h
   exact ⟨rfl,by rw [hv];rfl⟩
  ·cases h
 case lookup t m k q =>
  simp only [evOp] at h ⊢
  split at h
  ·rename_i kt et s b z hty
   split at h
   ·rename_i hk
    split at h
    ·rename_i l hm
     rw [if_pos hk]
     by_cases hl:H[l]? = H'[l]?
     ·rw [← hl]
      split at h
      ·rename_i kt' es hes
       try simp only [hes]
       split at h
       ·rename_i hkt
        rw [if_pos hkt]
        split at h
        ·cases h;rename_i hv;exact ⟨rfl,by simp⟩
        ·rename_i hv
         try simp only [hv]
         split at h
         ·split at h
          ·rename_i hz
           cases h
           rw [if_pos hz]
           exact ⟨rfl,rfl⟩
          ·cases h
         ·cases h
       ·cases h
      ·cases h
     ·cases q with
      | true=>exact absurd (seen_obj (hr (.obj l) (by simp [zAp,hm]))) hl
      | false =>
       cases hte:C.ty et with
       | none=>exact absurd (seen_obj (hr (.obj l) (by simp [zAp,hm,keyOf,hty,hte]))) hl
       | some te =>
        by_cases hz:te.zeroOk=true
        ·have hs:=hr (.key l (opd C e k) te.zv) (by simp [zAp,hm,keyOf,hty,hte,hz])
         split at h
         ·rename_i kt' es hes
          obtain ⟨es',e1,e2⟩:=seen_key hs hes
          rw [e1]
          dsimp only
          split at h
          ·rename_i hkt
           rw [if_pos hkt]
           cases h1:zAj (opd C e k) es with
           | some v1 =>
            rw [h1] at h e2
            simp only [Bool.false_eq_true,if_false,Option.some.injEq,OpR.val.injEq] at h
            obtain ⟨rfl,rfl⟩:=h
            cases h2:zAj (opd C e k) es' with
            | some v2=>rw [h2] at e2;simp only [Option.getD_some] at e2;subst e2;exact ⟨rfl,rfl⟩
            | none=>rw [h2] at e2;simp only [Option.getD_some,Option.getD_none] at e2;simp [hz,e2]
           | none =>
            rw [h1] at h e2
            simp only [hte,hz,if_true,Bool.false_eq_true,if_false,Option.some.injEq,OpR.val.injEq] at h
            obtain ⟨rfl,rfl⟩:=h
            cases h2:zAj (opd C e k) es' with
            | some v2=>rw [h2] at e2;simp only [Option.getD_some,Option.getD_none] at e2;subst e2;exact ⟨rfl,rfl⟩
            | none=>simp [hz]
          ·cases h
         ·cases h
        ·exact absurd (seen_obj (hr (.obj l) (by simp [zAp,hm,keyOf,hty,hte,hz]))) hl
    ·cases h
   ·cases h
  ·cases h
 case indexAddr t x i =>
  simp only [evOp] at h ⊢
  split at h
  ·rename_i el s b z kk k hty hi
   split at h
   ·rename_i te hte
    split at h
    ·rename_i f es hx
     split at h
     ·rename_i hk
      rw [if_pos hk]
      split at h
      ·split at h
       ·rename_i hc;cases h;rw [if_pos hc];exact ⟨rfl,rfl⟩
       ·cases h
      ·cases h
     ·cases h
    ·rename_i l n hx
     have hl:=seen_obj (hr (.obj l) (by simp only [zAp,hx]))
     rw [← hl]
     split at h
     ·rename_i sz xs hes
      try simp only [hes]
      split at h
      ·rename_i hc;cases h;rw [if_pos hc];exact ⟨rfl,rfl⟩
      ·cases h
     ·cases h
    ·cases h
   ·cases h
  ·rename_i len el s b z kk k hty hi
   split at h
   ·split at h
    ·rename_i hc
     rw [if_pos hc]
     obtain ⟨v',hv,h⟩:=Option.map_eq_some_iff.1 h
     cases h
     exact ⟨rfl,by rw [hv];rfl⟩
    ·cases h
   ·cases h
  ·cases h
 case fieldAddr t x i =>
  simp only [evOp] at h ⊢
  split at h
  ·rename_i fs0 s0 b0 z0 hty
   split at h
   ·rename_i off0 ft0 hi0
    split at h
    ·rename_i fy0 hfy
     split at h
     ·rename_i hz
      rw [if_pos hz]
      unfold evZero at h ⊢
      split at h
      ·rename_i fs l off hfs hx
       have hl:=seen_obj (hr (.obj l) (by simp only [zAp,hty,hi0,hfy,hz,if_true,hx]))
       rw [← hl]
       split at h
       ·split at h
        ·rename_i hc;cases h;rw [if_pos hc];exact ⟨rfl,rfl⟩
        ·cases h
       ·cases h
      ·cases h
     ·rename_i hz
      rw [if_neg hz]
      obtain ⟨v',hv,h⟩:=Option.map_eq_some_iff.1 h
      cases h
      exact ⟨rfl,by rw [hv];rfl⟩
    ·cases h
   ·cases h
  ·cases h
 case call cl =>
  obtain ⟨callee,args,tys⟩:=cl
  cases callee with
  | invoke r n=>simp only [zAl] at he;cases he
  | value f=>simp only [zAl] at he;cases he
  | builtin b =>
   simp only [evOp,zBi] at h ⊢
   cases b<;>(try (simp only [zAl] at he;cases he;done))<;>simp only [zAv] at h ⊢
   ·split at h
    ·obtain ⟨v',hv,h⟩:=Option.map_eq_some_iff.1 h
     cases h
     exact ⟨rfl,by rw [hv];rfl⟩
    ·exfalso
     have h1:=hlm _ rfl
     simp only [lenMap] at h1
     unfold lenM at h
     split at h
     ·rename_i h2
      rw [h2] at h1
      cases h1
     ·cases h
   ·split at h
    ·cases h;exact ⟨rfl,rfl⟩
    ·cases h;exact ⟨rfl,rfl⟩
    ·cases h
   ·split at h
    ·cases h;exact ⟨rfl,rfl⟩
    ·cases h;exact ⟨rfl,rfl⟩
    ·cases h
 case slice t x lo hi mx =>
  cases mx with
  | some _=>cases h
  | none =>
   simp only [evOp] at h ⊢
   repeat' split at h
   all_goals first
    | (cases h;done)
    | (cases h;exact ⟨rfl,rfl⟩)
    | (cases h;simp_all;done)
 all_goals
  simp only [evOp] at h ⊢
  try (cases h;done)
  try (repeat' split at h)
  all_goals first
   | (cases h;done)
   | (cases h;simp_all;done)
   | (obtain ⟨_,hv,h⟩:=Option.map_eq_some_iff.1 h;cases h;simp_all;done)
end
end Go.Ab
