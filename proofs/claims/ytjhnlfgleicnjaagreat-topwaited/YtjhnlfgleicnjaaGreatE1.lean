/- More fuel changes nothing: a run of the evaluator that has come to an end comes to the same end with more. -/
import Derived.Test.YtjhnlfgleicnjaaGreatD9
namespace Go.Ab
set_option linter.unusedSimpArgs false
set_option linter.unusedVariables false
section
variable {C:Cfg} {P:Program}
structure KXLe (X Y:KX):Prop where
 cv:∀ b f a c H d,X.cv b f a c H=some d→Y.cv b f a c H=some d
 dr:∀ F id opl s d,X.dr F id opl s=some d→Y.dr F id opl s=some d
 lv:∀ F j s d,X.lv F j s=some d→Y.lv F j s=some d
theorem stepK_dep (a:KSt):(∀ X Y,zAn C P X a=zAn C P Y a)∨(∃ F j s,∀ X,zAn C P X a=kDone (X.lv F j s))∨(∃ F k F' id opl s,∀ X,zAn C P X a=kExec F k (X.dr F' id opl s)) ∨
  ∃ F all r k e dst df pn b f x y H,∀ X,zAn C P X a=kCv F all r k e dst df pn (X.cv b f x y H):=by
 cases a with
 | exec F todo s =>
  cases todo with
  | nil=>exact .inr (.inl ⟨_,_,_,fun X=>rfl⟩)
  | cons it k =>
   cases it with
   | code x =>
    cases x with
    | ret=>exact .inr (.inl ⟨_,_,_,fun X=>rfl⟩)
    | region id opl draw =>
     cases hg:gcAt C F id s with
     | none=>exact .inl fun X Y=>by simp only [zAn,hg]
     | some s1 =>
      cases draw with
      | true=>exact .inr (.inr (.inl ⟨F,k,F,id,opl,s1,fun X=>by simp only [zAn,hg,if_true]⟩))
      | false=>exact .inl fun X Y=>by simp only [zAn,hg];rfl
    | _=>exact .inl fun X Y=>rfl
   | _=>exact .inl fun X Y=>rfl
 | ops F all rest k s =>
  cases rest with
  | nil=>exact .inl fun X Y=>rfl
  | cons o r =>
   cases hw:zAf all s.env o with
   | none=>exact .inl fun X Y=>by simp only [zAn,hw]
   | some b =>
    cases b with
    | false=>exact .inl fun X Y=>by simp only [zAn,hw]
    | true =>
     cases he:evOp C P F s.H s.env o with
     | none=>exact .inl fun X Y=>by simp only [zAn,hw,he,kOp]
     | some q =>
      cases q with
      | call f x y =>
       cases hf:kFn C f with
       | some g=>exact .inl fun X Y=>by simp only [zAn,hw,he,kOp,hf]
       | none=>exact .inr (.inr (.inr ⟨F,all,r,k,s.env,o.dst,s.dfr,s.pan,F.base,f,x,y,s.H,fun X=>by simp only [zAn,hw,he,kOp,hf]⟩))
      | _=>exact .inl fun X Y=>by simp only [zAn,hw,he,kOp]
 | endL F k L s d=>exact .inl fun X Y=>rfl
 | call g x H=>exact .inl fun X Y=>rfl
 | fin d=>exact .inl fun X Y=>rfl
 | stuck=>exact .inl fun X Y=>rfl
theorem stepK_mono {X Y:KX} (h:KXLe X Y) {a:KSt} (hn:zAn C P X a≠.none):zAn C P Y a=zAn C P X a:=by
 rcases stepK_dep (C:=C) (P:=P) a with h0 | ⟨F,j,s,h0⟩ | ⟨F,k,F',id,opl,s,h0⟩ | ⟨F,all,r,k,e,dst,df,pn,b,f,x,y,H,h0⟩
 ·exact h0 _ _
 ·rw [h0] at hn
  rw [h0,h0]
  cases e:X.lv F j s with
  | none=>rw [e] at hn;exact absurd rfl hn
  | some d=>rw [h.lv _ _ _ _ e]
 ·rw [h0] at hn
  rw [h0,h0]
  cases e:X.dr F' id opl s with
  | none=>rw [e] at hn;exact absurd rfl hn
  | some d=>rw [h.dr _ _ _ _ _ e]
 ·rw [h0] at hn
  rw [h0,h0]
  cases e:X.cv b f x y H with
  | none=>rw [e] at hn;exact absurd rfl hn
  | some d=>rw [h.cv _ _ _ _ _ _ e]
theorem kRun_mono {X Y:KX} (h:KXLe X Y) {a:KSt} {Q:Done→Prop} (hr:KRun C P X a Q):KRun C P Y a Q:=by
 induction hr with
 | done h1 hq=>exact .done (by rw [stepK_mono h (by rw [h1];simp),h1]) hq
 | alts h1 hn _ ih=>exact .alts (by rw [stepK_mono h (by rw [h1];simp),h1]) hn ih
 | call h1 _ _ ih1 ih2=>exact .call (by rw [stepK_mono h (by rw [h1];simp),h1]) ih1 ih2
theorem kRun_imp {X:KX} {a:KSt} {Q Q':Done→Prop} (hr:KRun C P X a Q) (hq:∀ d,Q d→Q' d):KRun C P X a Q':=by
 induction hr with
 | done h1 h2=>exact .done h1 (hq _ h2)
 | alts h1 hn _ ih=>exact .alts h1 hn (fun b hb=>ih b hb hq)
 | call h1 h2 _ _ ih2=>exact .call h1 h2 (fun d hd=>ih2 d hd hq)
theorem kRun_meet {X:KX} {a:KSt} {Q Q':Done→Prop} (h:KRun C P X a Q) (h':KRun C P X a Q'):∃ d,Q d∧Q' d:=by
 induction h generalizing Q' with
 | done h1 h2 =>
  cases h' with
  | done g1 g2=>rw [h1] at g1;cases g1;exact ⟨_,h2,g2⟩
  | alts g1=>rw [h1] at g1;cases g1
  | call g1=>rw [h1] at g1;cases g1
 | @alts _ _ l h1 hn _ ih =>
  cases h' with
  | done g1=>rw [h1] at g1;cases g1
  | alts g1 _ g3 =>
   rw [h1] at g1;cases g1
   obtain ⟨x,r,rfl⟩:=List.exists_cons_of_ne_nil hn
   exact ih x (by simp) (g3 x (by simp))
  | call g1=>rw [h1] at g1;cases g1
 | call h1 h2 h3 ih1 ih2 =>
  cases h' with
  | done g1=>rw [h1] at g1;cases g1
  | alts g1=>rw [h1] at g1;cases g1
  | call g1 g2 g3 =>
   rw [h1] at g1;cases g1
   obtain ⟨d,hd,hd'⟩:=ih1 g2
   exact ih2 d hd (g3 d hd')
theorem pickK {X:KX} {a:KSt} {d:Done} (h:KRun C P X a (·=d)):(pickD fun D=>KRun C P X a (·=D))=some d :=
 pickD_eq h fun d' h'=>by
  obtain ⟨x,rfl,rfl⟩:=kRun_meet h h'
  rfl
end
structure MonoLe (C:Cfg) (P:Program) (n m:Nat):Prop where
 exec:∀ F todo s d,exec C P n F todo s=some d→exec C P m F todo s=some d
 leave:∀ F j s d,leave C P n F j s=some d→leave C P m F j s=some d
 endLoop:∀ F k L s x d,endLoop C P n F k L s x=some d→endLoop C P m F k L s x=some d
 unw:∀ F q s d,unw C P n F q s=some d→unw C P m F q s=some d
 ops:∀ F all rest s d,ops C P n F all rest s=some d→ops C P m F all rest s=some d
 drawn:∀ F id opl s d,drawn C P n F id opl s=some d→drawn C P m F id opl s=some d
 dops:∀ F all ps i rest l s lds efs d,dops C P n F all ps i rest l s lds efs=some d→dops C P m F all ps i rest l s lds efs=some d
 callF:∀ dfd g args H pan d,callF C P n dfd g args H pan=some d→callF C P m dfd g args H pan=some d
 zAx:∀ base dfd f args cap H pan d,zAx C P n base dfd f args cap H pan=some d→zAx C P m base dfd f args cap H pan=some d
 callB:∀ base g args H d,callB C P n base g args H=some d→callB C P m base g args H=some d
theorem mono_step {C:Cfg} {P:Program} {n m:Nat} (ih:MonoLe C P n m):MonoLe C P (n+1) (m+1):=by
 constructor
 ·intro F todo s d h
  cases todo with
  | nil =>
   simp only [Ab.exec] at h ⊢
   exact ih.leave _ _ _ _ h
  | cons it k =>
   cases it with
   | inBlock id=>simp only [Ab.exec] at h ⊢;exact ih.exec _ _ _ _ h
   | inLoop x=>simp only [Ab.exec] at h ⊢;exact ih.exec _ _ _ _ h
   | inScope x=>simp only [Ab.exec] at h ⊢;exact ih.exec _ _ _ _ h
   | inRegion _ _=>simp [Ab.exec] at h
   | inRangeFunc _=>simp [Ab.exec] at h
   | endRangeFunc _=>simp [Ab.exec] at h
   | call _ _ _ _=>simp [Ab.exec] at h
   | extern _ _=>simp [Ab.exec] at h
   | beginRound =>
    simp only [Ab.exec] at h ⊢
    split at h
    ·split at h
     ·split at h
      ·rename_i h1 h2;simp only [h1,h2,if_true];exact ih.exec _ _ _ _ h
      ·cases h
     ·cases h
    ·cases h
   | code x =>
    cases x with
    | skip=>simp only [Ab.exec] at h ⊢;exact ih.exec _ _ _ _ h
    | label l=>simp only [Ab.exec] at h ⊢;exact ih.exec _ _ _ _ h
    | ret=>simp only [Ab.exec] at h ⊢;exact ih.leave _ _ _ _ h
    | seq a b=>simp only [Ab.exec] at h ⊢;exact ih.exec _ _ _ _ h
    | block a b=>simp only [Ab.exec] at h ⊢;exact ih.exec _ _ _ _ h
    | loop a=>simp only [Ab.exec] at h ⊢;exact ih.exec _ _ _ _ h
    | scope a=>simp only [Ab.exec] at h ⊢;exact ih.exec _ _ _ _ h
    | cond c a b =>
     simp only [Ab.exec] at h ⊢
     split at h
     ·rename_i e;exact ih.exec _ _ _ _ h
     ·rename_i e;exact ih.exec _ _ _ _ h
     ·cases h
    | exit id =>
     simp only [Ab.exec] at h ⊢
     split at h
     ·exact ih.exec _ _ _ _ h
     ·exact ih.leave _ _ _ _ h
    | goto id =>
     simp only [Ab.exec] at h ⊢
     split at h
     ·exact ih.exec _ _ _ _ h
     ·exact ih.leave _ _ _ _ h
    | region id opl draw =>
     simp only [Ab.exec] at h ⊢
     split at h
     ·cases h
     ·split at h
      ·rename_i hd
       rw [if_pos hd]
       split at h
       ·rename_i e;rw [ih.drawn _ _ _ _ _ e];exact ih.exec _ _ _ _ h
       ·rename_i e;rw [ih.drawn _ _ _ _ _ e];exact ih.unw _ _ _ _ h
       ·cases h
      ·rename_i hd
       rw [if_neg hd]
       split at h
       ·rename_i hi
        rw [if_pos hi]
        split at h
        ·rename_i l _
         obtain ⟨h1,h2⟩:=oneOf_some.1 h
         refine oneOf_some.2 ⟨by simpa using h1,fun x hx=>?_⟩
         obtain ⟨s1,hs1,rfl⟩:=List.mem_map.1 hx
         have h:=h2 _ (List.mem_map_of_mem hs1)
         split at h
         ·rename_i e;rw [ih.ops _ _ _ _ _ e];exact ih.exec _ _ _ _ h
         ·rename_i e;rw [ih.ops _ _ _ _ _ e];exact ih.unw _ _ _ _ h
         ·cases h
        ·cases h
       rename_i hi
       rw [if_neg hi]
       split at h
       ·rename_i e;rw [ih.ops _ _ _ _ _ e];exact ih.exec _ _ _ _ h
       ·rename_i e;rw [ih.ops _ _ _ _ _ e];exact ih.unw _ _ _ _ h
       ·cases h
    | rangeFunc f ps a b =>
     simp only [Ab.exec] at h ⊢
     split at h
     ·split at h
      ·split at h
       ·rename_i e;rw [ih.zAx _ _ _ _ _ _ _ _ e];exact ih.endLoop _ _ _ _ _ _ h
       ·cases h
      ·split at h
       ·split at h
        ·rename_i e;rw [ih.zAx _ _ _ _ _ _ _ _ e];exact ih.endLoop _ _ _ _ _ _ h
        ·cases h
       ·cases h
     ·cases h
    | _=>simp [Ab.exec] at h
 ·intro F j s d h
  simp only [Ab.leave] at h ⊢
  split at h
  ·exact h
  ·split at h
   ·exact ih.unw _ _ _ _ h
   ·exact ih.unw _ _ _ _ h
   ·cases h
 ·intro F k L s x d h
  simp only [Ab.endLoop] at h ⊢
  split at h
  ·exact ih.unw _ _ _ _ h
  ·split at h
   ·split at h
    ·cases h
    ·rename_i h1;rw [if_neg h1];exact ih.exec _ _ _ _ h
   ·cases h
 ·intro F m s d h
  simp only [Ab.unw] at h ⊢
  split at h
  ·split at h
   ·exact ih.unw _ _ _ _ h
   ·cases h
  ·split at h
   ·rename_i e
    rw [ih.zAx _ _ _ _ _ _ _ _ e]
    dsimp only
    split at h
    ·exact ih.unw _ _ _ _ h
    ·exact ih.unw _ _ _ _ h
   ·cases h
  ·exact h
 ·intro F all rest s d h
  cases rest with
  | nil=>simp only [Ab.ops] at h ⊢;exact h
  | cons o r =>
   simp only [Ab.ops] at h ⊢
   split at h
   ·cases h
   ·exact ih.ops _ _ _ _ _ h
   ·split at h
    ·cases h
    ·exact ih.ops _ _ _ _ _ h
    ·split at h
     ·rename_i e;rw [ih.zAx _ _ _ _ _ _ _ _ e];exact ih.ops _ _ _ _ _ h
     ·rename_i e;rw [ih.zAx _ _ _ _ _ _ _ _ e];exact h
     ·cases h
    ·exact h
    ·exact ih.ops _ _ _ _ _ h
    ·split at h
     ·exact ih.ops _ _ _ _ _ h
     ·exact ih.ops _ _ _ _ _ h
     ·cases h
 ·intro F id opl s d h
  simp only [Ab.drawn] at h ⊢
  split at h
  ·split at h
   ·rename_i h1;rw [if_pos h1];exact ih.dops _ _ _ _ _ _ _ _ _ _ h
   ·cases h
  ·cases h
 ·intro F all ps i rest l s lds efs d h
  cases rest with
  | nil=>simp only [Ab.dops] at h ⊢;exact h
  | cons o r =>
   simp only [Ab.dops] at h ⊢
   split at h
   ·cases h
   ·exact ih.dops _ _ _ _ _ _ _ _ _ _ h
   ·split at h
    ·split at h
     ·rename_i h1;rw [if_pos h1];exact ih.dops _ _ _ _ _ _ _ _ _ _ h
     ·rename_i h1;rw [if_neg h1];exact ih.dops _ _ _ _ _ _ _ _ _ _ h
    ·split at h
     ·rename_i e;rw [ih.zAx _ _ _ _ _ _ _ _ e];exact ih.dops _ _ _ _ _ _ _ _ _ _ h
     ·rename_i e;rw [ih.zAx _ _ _ _ _ _ _ _ e];exact h
     ·cases h
    ·cases h
 ·intro dfd g args H pan d h
  simp only [Ab.callF] at h ⊢
  split at h
  ·exact h
  ·split at h
   ·cases h
   ·split at h
    ·rename_i h1
     rw [if_pos h1]
     rw [Option.map_eq_some_iff] at h ⊢
     obtain ⟨x,hx,hy⟩:=h
     exact ⟨x,ih.exec _ _ _ _ hx,hy⟩
    ·cases h
 ·intro base dfd f args cap H pan d h
  cases f with
  | func g =>
   simp only [Ab.zAx] at h ⊢
   split at h
   ·rename_i hg
    rw [if_pos hg]
    split at h
    ·cases h
    ·rename_i hd
     rw [if_neg hd]
     exact ih.callB _ _ _ _ _ h
   ·rename_i hg
    rw [if_neg hg]
    split at h
    ·rename_i hr
     rw [if_pos hr]
     split at h
     ·cases h
     ·rename_i hd
      rw [if_neg hd]
      exact pickK (kRun_mono ⟨fun _ _ _ _ _ _ h=>ih.zAx _ _ _ _ _ _ _ _ h,fun _ _ _ _ _ h=>ih.drawn _ _ _ _ _ h,fun _ _ _ _ h=>ih.leave _ _ _ _ h⟩ (pickD_some h))
    ·rename_i hr
     rw [if_neg hr]
     exact ih.callF _ _ _ _ _ _ h
  | method name =>
   simp only [Ab.zAx] at h ⊢
   split at h
   ·split at h
    ·exact ih.callF _ _ _ _ _ _ h
    ·cases h
   ·cases h
  | methodOf t name =>
   simp only [Ab.zAx] at h ⊢
   split at h
   ·split at h
    ·split at h
     ·split at h
      ·split at h
       ·exact ih.callF _ _ _ _ _ _ h
       ·cases h
      ·cases h
     ·split at h
      ·exact ih.callF _ _ _ _ _ _ h
      ·cases h
    ·cases h
   ·cases h
  | yield l =>
   simp only [Ab.zAx] at h ⊢
   split at h
   ·cases h
   ·split at h
    ·split at h
     ·rename_i h1
      rw [if_neg (by assumption)]
      rw [if_pos h1]
      rw [Option.map_eq_some_iff] at h ⊢
      obtain ⟨x,hx,hy⟩:=h
      exact ⟨x,ih.exec _ _ _ _ hx,hy⟩
     ·cases h
    ·cases h
  | _=>simp [Ab.zAx] at h
 ·intro base g args H d h
  simp only [Ab.callB] at h ⊢
  split at h
  ·cases h
  ·split at h
   ·cases h
   ·split at h
    ·rename_i h1
     rw [if_pos h1]
     exact ih.exec _ _ _ _ h
    ·cases h
theorem mono_zero (C:Cfg) (P:Program) (m:Nat):MonoLe C P 0 m:=by
 constructor<;>intros<;>rename_i h
 ·simp [Ab.exec] at h
 ·simp [Ab.leave] at h
 ·simp [Ab.endLoop] at h
 ·simp [Ab.unw] at h
 ·simp [Ab.ops] at h
 ·simp [Ab.drawn] at h
 ·simp [Ab.dops] at h
 ·simp [Ab.callF] at h
 ·simp [Ab.zAx] at h
 ·simp [Ab.callB] at h
theorem monoAt (C:Cfg) (P:Program) (n:Nat):MonoLe C P n (n+1):=by
 induction n with
 | zero=>exact mono_zero _ _ _
 | succ n ih=>exact mono_step ih
end Go.Ab
