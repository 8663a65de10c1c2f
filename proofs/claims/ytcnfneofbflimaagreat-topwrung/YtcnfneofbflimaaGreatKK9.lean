/- The sort of a list of sets, walked. -/
import Derived.Test.YtcnfneofbflimaaGreatKK8
import Derived.Test.YtcnfneofbflimaaGreatKK7
import Derived.Test.YtcnfneofbflimaaGreatKK6
namespace Go.Ab
open Go.Proofs
set_option linter.unusedSimpArgs false
set_option linter.unusedVariables false
set_option maxRecDepth 100000
variable {H:Heap}
theorem so_sym_tail {fn:Fn} {cap:List AV} {p n a m b s mid e:Nat} {L L1 L2 L3:List Nat} (hn:n≤100000) (hb:b≤n) (hab:a≤s∧s≤m∧m≤e∧e≤b∧mid<b) (he:mid+m-s=e) (e6:((mid+m:Nat):Int)-s=(e:Int))
  (d1:((s:Int)<m∧(m:Int)<e∧zA9 cfg0 zA2 false 103 [.gsl p n,I s,I m,I (e:Int),.func fn [] cap] (GH H p L) none=some ⟨.ret (.tup []),GH H p L1,none⟩)∨((s:Int)<m∧¬ (m:Int)<e∧L=L1)∨(¬ (s:Int)<m∧L=L1))
  (d2:((a:Int)<s∧(s:Int)<mid∧zA9 cfg0 zA2 false 97 [.gsl p n,I a,I s,I mid,.func fn [] cap] (GH H p L1) none=some ⟨.ret (.tup []),GH H p L2,none⟩)∨((a:Int)<s∧¬ (s:Int)<mid∧L1=L2)∨(¬ (a:Int)<s∧L1=L2))
  (d3:((mid:Int)<e∧(e:Int)<b∧zA9 cfg0 zA2 false 97 [.gsl p n,I mid,I e,I b,.func fn [] cap] (GH H p L2) none=some ⟨.ret (.tup []),GH H p L3,none⟩)∨((mid:Int)<e∧¬ (e:Int)<b∧L2=L3)∨(¬ (mid:Int)<e∧L2=L3)) :
  ∀ (E:Env),E.get 0=.gsl p n→E.get 1=I a→E.get 2=I m→E.get 3=I b→E.get 4=.func fn [] cap→E.get 18=I mid→E.get 19=I ((mid+m:Nat):Int)→E.get 20=I s →
    Option.map (zAd H.length) (zAe cfg0 zA2 ⟨97,none,false,H.length⟩ (zA4 Tryz.f97 33) ⟨E,[],GH H p L,none⟩)=some ⟨.ret (.tup []),GH H p L3,none⟩:=by
 intro E g0 g1 g2 g3 g4 g18 g19 g20
 simp only [zA6,zA4,zA5,zA7,zA3,↓reduceIte,Option.some.injEq,Nat.reduceEqDiff,reduceCtorEq,Tryz.f97]
 rcases d1 with ⟨u1,v1,w1⟩ | ⟨u1,v1,rfl⟩ | ⟨u1,rfl⟩
 ·simp -implicitDefEqProofs (maxSteps:=1000000) (disch:=first|rfl|omega|assumption) only [go_sem,ltT,ltF,leT,g0,g1,g2,g3,g4,g18,g19,g20,e6,u1,v1,w1]
  rcases d2 with ⟨u2,v2,w2⟩ | ⟨u2,v2,rfl⟩ | ⟨u2,rfl⟩
  ·simp -implicitDefEqProofs (maxSteps:=1000000) (disch:=first|rfl|omega|assumption) only [go_sem,ltT,ltF,leT,g0,g1,g2,g3,g4,g18,g19,g20,e6,u1,v1,w1,u2,v2,w2]
   rcases d3 with ⟨u3,v3,w3⟩ | ⟨u3,v3,rfl⟩ | ⟨u3,rfl⟩
   ·first | (exfalso;omega) | simp -implicitDefEqProofs (maxSteps:=1000000) (disch:=first|rfl|omega|assumption) only [go_sem,ltT,ltF,leT,g0,g1,g2,g3,g4,g18,g19,g20,e6,u1,v1,w1,u2,v2,w2,u3,v3,w3]
   ·first | (exfalso;omega) | simp -implicitDefEqProofs (maxSteps:=1000000) (disch:=first|rfl|omega|assumption) only [go_sem,ltT,ltF,leT,g0,g1,g2,g3,g4,g18,g19,g20,e6,u1,v1,w1,u2,v2,w2,u3,v3]
   ·first | (exfalso;omega) | simp -implicitDefEqProofs (maxSteps:=1000000) (disch:=first|rfl|omega|assumption) only [go_sem,ltT,ltF,leT,g0,g1,g2,g3,g4,g18,g19,g20,e6,u1,v1,w1,u2,v2,w2,u3]
  ·simp -implicitDefEqProofs (maxSteps:=1000000) (disch:=first|rfl|omega|assumption) only [go_sem,ltT,ltF,leT,g0,g1,g2,g3,g4,g18,g19,g20,e6,u1,v1,w1,u2,v2]
   rcases d3 with ⟨u3,v3,w3⟩ | ⟨u3,v3,rfl⟩ | ⟨u3,rfl⟩
   ·first | (exfalso;omega) | simp -implicitDefEqProofs (maxSteps:=1000000) (disch:=first|rfl|omega|assumption) only [go_sem,ltT,ltF,leT,g0,g1,g2,g3,g4,g18,g19,g20,e6,u1,v1,w1,u2,v2,u3,v3,w3]
   ·first | (exfalso;omega) | simp -implicitDefEqProofs (maxSteps:=1000000) (disch:=first|rfl|omega|assumption) only [go_sem,ltT,ltF,leT,g0,g1,g2,g3,g4,g18,g19,g20,e6,u1,v1,w1,u2,v2,u3,v3]
   ·first | (exfalso;omega) | simp -implicitDefEqProofs (maxSteps:=1000000) (disch:=first|rfl|omega|assumption) only [go_sem,ltT,ltF,leT,g0,g1,g2,g3,g4,g18,g19,g20,e6,u1,v1,w1,u2,v2,u3]
  ·simp -implicitDefEqProofs (maxSteps:=1000000) (disch:=first|rfl|omega|assumption) only [go_sem,ltT,ltF,leT,g0,g1,g2,g3,g4,g18,g19,g20,e6,u1,v1,w1,u2]
   rcases d3 with ⟨u3,v3,w3⟩ | ⟨u3,v3,rfl⟩ | ⟨u3,rfl⟩
   ·first | (exfalso;omega) | simp -implicitDefEqProofs (maxSteps:=1000000) (disch:=first|rfl|omega|assumption) only [go_sem,ltT,ltF,leT,g0,g1,g2,g3,g4,g18,g19,g20,e6,u1,v1,w1,u2,u3,v3,w3]
   ·first | (exfalso;omega) | simp -implicitDefEqProofs (maxSteps:=1000000) (disch:=first|rfl|omega|assumption) only [go_sem,ltT,ltF,leT,g0,g1,g2,g3,g4,g18,g19,g20,e6,u1,v1,w1,u2,u3,v3]
   ·first | (exfalso;omega) | simp -implicitDefEqProofs (maxSteps:=1000000) (disch:=first|rfl|omega|assumption) only [go_sem,ltT,ltF,leT,g0,g1,g2,g3,g4,g18,g19,g20,e6,u1,v1,w1,u2,u3]
 ·simp -implicitDefEqProofs (maxSteps:=1000000) (disch:=first|rfl|omega|assumption) only [go_sem,ltT,ltF,leT,g0,g1,g2,g3,g4,g18,g19,g20,e6,u1,v1]
  rcases d2 with ⟨u2,v2,w2⟩ | ⟨u2,v2,rfl⟩ | ⟨u2,rfl⟩
  ·simp -implicitDefEqProofs (maxSteps:=1000000) (disch:=first|rfl|omega|assumption) only [go_sem,ltT,ltF,leT,g0,g1,g2,g3,g4,g18,g19,g20,e6,u1,v1,u2,v2,w2]
   rcases d3 with ⟨u3,v3,w3⟩ | ⟨u3,v3,rfl⟩ | ⟨u3,rfl⟩
   ·first | (exfalso;omega) | simp -implicitDefEqProofs (maxSteps:=1000000) (disch:=first|rfl|omega|assumption) only [go_sem,ltT,ltF,leT,g0,g1,g2,g3,g4,g18,g19,g20,e6,u1,v1,u2,v2,w2,u3,v3,w3]
   ·first | (exfalso;omega) | simp -implicitDefEqProofs (maxSteps:=1000000) (disch:=first|rfl|omega|assumption) only [go_sem,ltT,ltF,leT,g0,g1,g2,g3,g4,g18,g19,g20,e6,u1,v1,u2,v2,w2,u3,v3]
   ·first | (exfalso;omega) | simp -implicitDefEqProofs (maxSteps:=1000000) (disch:=first|rfl|omega|assumption) only [go_sem,ltT,ltF,leT,g0,g1,g2,g3,g4,g18,g19,g20,e6,u1,v1,u2,v2,w2,u3]
  ·simp -implicitDefEqProofs (maxSteps:=1000000) (disch:=first|rfl|omega|assumption) only [go_sem,ltT,ltF,leT,g0,g1,g2,g3,g4,g18,g19,g20,e6,u1,v1,u2,v2]
   rcases d3 with ⟨u3,v3,w3⟩ | ⟨u3,v3,rfl⟩ | ⟨u3,rfl⟩
   ·first | (exfalso;omega) | simp -implicitDefEqProofs (maxSteps:=1000000) (disch:=first|rfl|omega|assumption) only [go_sem,ltT,ltF,leT,g0,g1,g2,g3,g4,g18,g19,g20,e6,u1,v1,u2,v2,u3,v3,w3]
   ·first | (exfalso;omega) | simp -implicitDefEqProofs (maxSteps:=1000000) (disch:=first|rfl|omega|assumption) only [go_sem,ltT,ltF,leT,g0,g1,g2,g3,g4,g18,g19,g20,e6,u1,v1,u2,v2,u3,v3]
   ·first | (exfalso;omega) | simp -implicitDefEqProofs (maxSteps:=1000000) (disch:=first|rfl|omega|assumption) only [go_sem,ltT,ltF,leT,g0,g1,g2,g3,g4,g18,g19,g20,e6,u1,v1,u2,v2,u3]
  ·simp -implicitDefEqProofs (maxSteps:=1000000) (disch:=first|rfl|omega|assumption) only [go_sem,ltT,ltF,leT,g0,g1,g2,g3,g4,g18,g19,g20,e6,u1,v1,u2]
   rcases d3 with ⟨u3,v3,w3⟩ | ⟨u3,v3,rfl⟩ | ⟨u3,rfl⟩
   ·first | (exfalso;omega) | simp -implicitDefEqProofs (maxSteps:=1000000) (disch:=first|rfl|omega|assumption) only [go_sem,ltT,ltF,leT,g0,g1,g2,g3,g4,g18,g19,g20,e6,u1,v1,u2,u3,v3,w3]
   ·first | (exfalso;omega) | simp -implicitDefEqProofs (maxSteps:=1000000) (disch:=first|rfl|omega|assumption) only [go_sem,ltT,ltF,leT,g0,g1,g2,g3,g4,g18,g19,g20,e6,u1,v1,u2,u3,v3]
   ·first | (exfalso;omega) | simp -implicitDefEqProofs (maxSteps:=1000000) (disch:=first|rfl|omega|assumption) only [go_sem,ltT,ltF,leT,g0,g1,g2,g3,g4,g18,g19,g20,e6,u1,v1,u2,u3]
 ·simp -implicitDefEqProofs (maxSteps:=1000000) (disch:=first|rfl|omega|assumption) only [go_sem,ltT,ltF,leT,g0,g1,g2,g3,g4,g18,g19,g20,e6,u1]
  rcases d2 with ⟨u2,v2,w2⟩ | ⟨u2,v2,rfl⟩ | ⟨u2,rfl⟩
  ·simp -implicitDefEqProofs (maxSteps:=1000000) (disch:=first|rfl|omega|assumption) only [go_sem,ltT,ltF,leT,g0,g1,g2,g3,g4,g18,g19,g20,e6,u1,u2,v2,w2]
   rcases d3 with ⟨u3,v3,w3⟩ | ⟨u3,v3,rfl⟩ | ⟨u3,rfl⟩
   ·first | (exfalso;omega) | simp -implicitDefEqProofs (maxSteps:=1000000) (disch:=first|rfl|omega|assumption) only [go_sem,ltT,ltF,leT,g0,g1,g2,g3,g4,g18,g19,g20,e6,u1,u2,v2,w2,u3,v3,w3]
   ·first | (exfalso;omega) | simp -implicitDefEqProofs (maxSteps:=1000000) (disch:=first|rfl|omega|assumption) only [go_sem,ltT,ltF,leT,g0,g1,g2,g3,g4,g18,g19,g20,e6,u1,u2,v2,w2,u3,v3]
   ·first | (exfalso;omega) | simp -implicitDefEqProofs (maxSteps:=1000000) (disch:=first|rfl|omega|assumption) only [go_sem,ltT,ltF,leT,g0,g1,g2,g3,g4,g18,g19,g20,e6,u1,u2,v2,w2,u3]
  ·simp -implicitDefEqProofs (maxSteps:=1000000) (disch:=first|rfl|omega|assumption) only [go_sem,ltT,ltF,leT,g0,g1,g2,g3,g4,g18,g19,g20,e6,u1,u2,v2]
   rcases d3 with ⟨u3,v3,w3⟩ | ⟨u3,v3,rfl⟩ | ⟨u3,rfl⟩
   ·first | (exfalso;omega) | simp -implicitDefEqProofs (maxSteps:=1000000) (disch:=first|rfl|omega|assumption) only [go_sem,ltT,ltF,leT,g0,g1,g2,g3,g4,g18,g19,g20,e6,u1,u2,v2,u3,v3,w3]
   ·first | (exfalso;omega) | simp -implicitDefEqProofs (maxSteps:=1000000) (disch:=first|rfl|omega|assumption) only [go_sem,ltT,ltF,leT,g0,g1,g2,g3,g4,g18,g19,g20,e6,u1,u2,v2,u3,v3]
   ·first | (exfalso;omega) | simp -implicitDefEqProofs (maxSteps:=1000000) (disch:=first|rfl|omega|assumption) only [go_sem,ltT,ltF,leT,g0,g1,g2,g3,g4,g18,g19,g20,e6,u1,u2,v2,u3]
  ·simp -implicitDefEqProofs (maxSteps:=1000000) (disch:=first|rfl|omega|assumption) only [go_sem,ltT,ltF,leT,g0,g1,g2,g3,g4,g18,g19,g20,e6,u1,u2]
   rcases d3 with ⟨u3,v3,w3⟩ | ⟨u3,v3,rfl⟩ | ⟨u3,rfl⟩
   ·first | (exfalso;omega) | simp -implicitDefEqProofs (maxSteps:=1000000) (disch:=first|rfl|omega|assumption) only [go_sem,ltT,ltF,leT,g0,g1,g2,g3,g4,g18,g19,g20,e6,u1,u2,u3,v3,w3]
   ·first | (exfalso;omega) | simp -implicitDefEqProofs (maxSteps:=1000000) (disch:=first|rfl|omega|assumption) only [go_sem,ltT,ltF,leT,g0,g1,g2,g3,g4,g18,g19,g20,e6,u1,u2,u3,v3]
   ·first | (exfalso;omega) | simp -implicitDefEqProofs (maxSteps:=1000000) (disch:=first|rfl|omega|assumption) only [go_sem,ltT,ltF,leT,g0,g1,g2,g3,g4,g18,g19,g20,e6,u1,u2,u3]
theorem so_sym {fn:Fn} {cap:List AV} {key:Nat→Int} {B:Nat} (hc:Cmp fn cap key B) {p:Nat} (hp:p<H.length) {n:Nat} (hn:n≤100000):∀ (f:Nat) (L:List Nat) (a m b:Nat),b-a≤f→a<m→m<b→b≤n→L.length=n→Small B L →
  zA9 cfg0 zA2 false 97 [.gsl p n,I a,I m,I b,.func fn [] cap] (GH H p L) none=some ⟨.ret (.tup []),GH H p (sym key f L a m b),none⟩:=by
 intro f
 induction f with
 | zero=>intro L a m b h1 h2 h3;omega
 | succ f ih =>
  intro L a m b hf ham hmb hbn hL hB
  have hlen:∀ M,(GH H p M).length=H.length:=fun M=>by simp [GH]
  rw [sym]
  by_cases c1:m-a=1
  ·rw [if_pos c1]
   have z1:((m:Int)-a==1)=true:=by simp;omega
   have hb:=bs_bd (fun h=>decide (key (gt L h)-key (gt L a)<0)) (b-m+1) m b (by omega)
   have h2:=up_loop hp a (bsr (fun h=>decide (key (gt L h)-key (gt L a)<0)) (b-m+1) m b) n hn (by omega) (symA key L a m b) _ 0 (Nat.zero_add _) L hL rfl
   refine (zA1 fn97 rfl (by simp [Tryz.f97])).trans ?_
   simp -implicitDefEqProofs (maxSteps:=1000000) (disch:=first|rfl|omega|assumption) only [go_sem,ltT,ltF,leT,hlen,z1]
   refine bsA_loop hc hp a m b n hn (by omega) L hL hB (b-m+1) _ _ _ (fun E g0 g1 g2 g3 g4 g10=>?_) (b-m+1) 0 (by omega) m b hbn (by omega) (by omega) rfl _ (by rfl) (by rfl) (by rfl) (by rfl) (by rfl) (by rfl) (by rfl)
   simp -implicitDefEqProofs (maxSteps:=1000000) (disch:=first|rfl|omega|assumption) only [go_sem,ltT,ltF,leT,g0,g1,g2,g3,g4,g10]
   exact h2 _ (by exact g0) (by exact g10) (by rfl)
  rw [if_neg c1]
  have z1:((m:Int)-a==1)=false:=by simp;omega
  by_cases c2:b-m=1
  ·rw [if_pos c2]
   have z2:((b:Int)-m==1)=true:=by simp;omega
   have hb:=bs_bd (fun h=>!decide (key (gt L m)-key (gt L h)<0)) (m-a+1) a m (by omega)
   have h2:=dn_loop hp (bsr (fun h=>!decide (key (gt L m)-key (gt L h)<0)) (m-a+1) a m) m n hn (by omega) (symB key L a m b) _ 0 (Nat.zero_add _) L hL rfl
   have e:bsr (fun h=>!decide (key (gt L m)-key (gt L h)<0)) (m-a+1) a m+(m-bsr (fun h=>!decide (key (gt L m)-key (gt L h)<0)) (m-a+1) a m)=m:=by omega
   rw [e] at h2
   refine (zA1 fn97 rfl (by simp [Tryz.f97])).trans ?_
   simp -implicitDefEqProofs (maxSteps:=1000000) (disch:=first|rfl|omega|assumption) only [go_sem,ltT,ltF,leT,hlen,z1,z2]
   refine bsB_loop hc hp a m b n hn (by omega) L hL hB (m-a+1) _ _ _ (fun E g0 g1 g2 g3 g4 g14=>?_) (m-a+1) 0 (by omega) a m (by omega) (by omega) (by omega) rfl _ (by rfl) (by rfl) (by rfl) (by rfl) (by rfl) (by rfl) (by rfl)
   simp -implicitDefEqProofs (maxSteps:=1000000) (disch:=first|rfl|omega|assumption) only [go_sem,ltT,ltF,leT,g0,g1,g2,g3,g4,g14]
   exact h2 _ (by exact g0) (by exact g14) (by rfl)
  rw [if_neg c2]
  have z2:((b:Int)-m==1)=false:=by simp;omega
  dsimp only
  obtain ⟨s1,s2,s3,s4,s5⟩:=symS_bd key L ham hmb
  obtain ⟨s,hs⟩:∃ s,symS key L a m b=s:=⟨_,rfl⟩
  have hs':=hs
  simp only [symS] at hs'
  rw [hs] at s1 s2 s3 s4 s5 ⊢
  have e0:=half a b
  have e2:=halfw (x:=a) (y:=b) (by omega)
  obtain ⟨mid,hmid⟩:∃ mid,(a+b)/2=mid:=⟨_,rfl⟩
  have e3:IntKind.i64.wrap (mid:Int)=mid:=w64 (by omega) (by omega)
  have hab:a<mid∧mid<b:=by omega
  rw [hmid] at s3 s4 s5 e0 hs' ⊢
  have e4:(mid:Int)+m=((mid+m:Nat):Int):=rfl
  have e5:((mid+m:Nat):Int)-1=((mid+m-1:Nat):Int):=by omega
  have e6:((mid+m:Nat):Int)-s=((mid+m-s:Nat):Int):=by omega
  have k1:s<m→m<mid+m-s→zA9 cfg0 zA2 false 103 [.gsl p n,I s,I m,I ((mid+m-s:Nat):Int),.func fn [] cap] (GH H p L) none=some ⟨.ret (.tup []),GH H p (rot m (mid+m-s-s) L (m-s) (mid+m-s-m)),none⟩:=fun h1 h2=>so_rot hp hn h1 h2 (by omega) hL
  obtain ⟨e,he⟩:∃ e,mid+m-s=e:=⟨_,rfl⟩
  rw [he] at k1 e6 s4 s5 ⊢
  have k2:a<s→s<mid→∀ M:List Nat,M.length=n→Small B M→zA9 cfg0 zA2 false 97 [.gsl p n,I a,I s,I mid,.func fn [] cap] (GH H p M) none=some ⟨.ret (.tup []),GH H p (sym key f M a s mid),none⟩:=fun h1 h2 M h3 h4=>ih M a s mid (by omega) h1 h2 (by omega) h3 h4
  have k3:mid<e→e<b→∀ M:List Nat,M.length=n→Small B M→zA9 cfg0 zA2 false 97 [.gsl p n,I mid,I e,I b,.func fn [] cap] (GH H p M) none=some ⟨.ret (.tup []),GH H p (sym key f M mid e b),none⟩:=fun h1 h2 M h3 h4=>ih M mid e b (by omega) h1 h2 (by omega) h3 h4
  have tail:∀ (E:Env),E.get 0=.gsl p n→E.get 1=I a→E.get 2=I m→E.get 3=I b→E.get 4=.func fn [] cap→E.get 18=I mid→E.get 19=I ((mid+m:Nat):Int)→E.get 20=I s →
    Option.map (zAd H.length) (zAe cfg0 zA2 ⟨97,none,false,H.length⟩ (zA4 Tryz.f97 33) ⟨E,[],GH H p L,none⟩)=some ⟨.ret (.tup []),GH H p (if mid<e∧e<b then sym key f (if a<s∧s<mid then sym key f (if s<m∧m<e then rot m (e-s) L (m-s) (e-m) else L) a s mid else if s<m∧m<e then rot m (e-s) L (m-s) (e-m) else L) mid e b else if a<s∧s<mid then sym key f (if s<m∧m<e then rot m (e-s) L (m-s) (e-m) else L) a s mid else if s<m∧m<e then rot m (e-s) L (m-s) (e-m) else L),none⟩:=by
   intro E g0 g1 g2 g3 g4 g18 g19 g20
   have l1:∀ M:List Nat,M.length=n→∀ f' a' m' b',(sym key f' M a' m' b').length=n:=fun M h _ _ _ _=>by rw [sym_len];exact h
   obtain ⟨L1,hL1⟩:∃ L1,(if s<m∧m<e then rot m (e-s) L (m-s) (e-m) else L)=L1:=⟨_,rfl⟩
   have hl1:L1.length=n:=by rw [← hL1];split<;>simp only [rot_len,hL]
   have hB1:Small B L1:=by
    rw [← hL1]
    split
    ·exact small_rot _ _ _ _ _ (by omega) (by omega) hB
    ·exact hB
   obtain ⟨L2,hL2⟩:∃ L2,(if a<s∧s<mid then sym key f L1 a s mid else L1)=L2:=⟨_,rfl⟩
   have hl2:L2.length=n:=by rw [← hL2];split<;>simp only [sym_len,hl1]
   have hB2:Small B L2:=by
    rw [← hL2]
    split
    ·exact small_sym _ _ _ _ _ _ (by omega) (by omega) (by omega) hB1
    ·exact hB1
   rw [hL1,hL2]
   have d1:((s:Int)<m∧(m:Int)<e∧zA9 cfg0 zA2 false 103 [.gsl p n,I s,I m,I (e:Int),.func fn [] cap] (GH H p L) none=some ⟨.ret (.tup []),GH H p L1,none⟩)∨((s:Int)<m∧¬ (m:Int)<e∧L=L1)∨(¬ (s:Int)<m∧L=L1):=by
    by_cases h1:s<m
    ·by_cases h2:m<e
     ·have:=k1 h1 h2
      rw [if_pos ⟨h1,h2⟩] at hL1
      rw [hL1] at this
      exact .inl ⟨by omega,by omega,this⟩
     ·rw [if_neg (by omega)] at hL1
      exact .inr (.inl ⟨by omega,by omega,hL1⟩)
    ·rw [if_neg (by omega)] at hL1
     exact .inr (.inr ⟨by omega,hL1⟩)
   have d2:((a:Int)<s∧(s:Int)<mid∧zA9 cfg0 zA2 false 97 [.gsl p n,I a,I s,I mid,.func fn [] cap] (GH H p L1) none=some ⟨.ret (.tup []),GH H p L2,none⟩)∨((a:Int)<s∧¬ (s:Int)<mid∧L1=L2)∨(¬ (a:Int)<s∧L1=L2):=by
    by_cases h1:a<s
    ·by_cases h2:s<mid
     ·have:=k2 h1 h2 L1 hl1 hB1
      rw [if_pos ⟨h1,h2⟩] at hL2
      rw [hL2] at this
      exact .inl ⟨by omega,by omega,this⟩
     ·rw [if_neg (by omega)] at hL2
      exact .inr (.inl ⟨by omega,by omega,hL2⟩)
    ·rw [if_neg (by omega)] at hL2
     exact .inr (.inr ⟨by omega,hL2⟩)
   obtain ⟨L3,hL3⟩:∃ L3,(if mid<e∧e<b then sym key f L2 mid e b else L2)=L3:=⟨_,rfl⟩
   rw [hL3]
   have d3:((mid:Int)<e∧(e:Int)<b∧zA9 cfg0 zA2 false 97 [.gsl p n,I mid,I e,I b,.func fn [] cap] (GH H p L2) none=some ⟨.ret (.tup []),GH H p L3,none⟩)∨((mid:Int)<e∧¬ (e:Int)<b∧L2=L3)∨(¬ (mid:Int)<e∧L2=L3):=by
    by_cases h1:mid<e
    ·by_cases h2:e<b
     ·have:=k3 h1 h2 L2 hl2 hB2
      rw [if_pos ⟨h1,h2⟩] at hL3
      rw [hL3] at this
      exact .inl ⟨by omega,by omega,this⟩
     ·rw [if_neg (by omega)] at hL3
      exact .inr (.inl ⟨by omega,by omega,hL3⟩)
    ·rw [if_neg (by omega)] at hL3
     exact .inr (.inr ⟨by omega,hL3⟩)
   exact so_sym_tail hn hbn ⟨s1,s2,s4,s5,hab.2⟩ he e6 d1 d2 d3 E g0 g1 g2 g3 g4 g18 g19 g20
  refine (zA1 fn97 rfl (by simp [Tryz.f97])).trans ?_
  by_cases c3:mid<m
  ·simp only [c3,if_true] at hs'
   have c3':(mid:Int)<m:=by omega
   have e7:((mid+m:Nat):Int)-b=((mid+m-b:Nat):Int):=by omega
   simp -implicitDefEqProofs (maxSteps:=1000000) (disch:=first|rfl|omega|assumption) only [go_sem,ltT,ltF,leT,hlen,z1,z2,e0,e2,e3,e4,e5,c3',e7]
   exact bsC_loop hc hp a m b n (mid+m) (mid+m-1) mid hn (by omega) L hL hB (mid-(mid+m-b)+1) _ _ _ tail (mid-(mid+m-b)+1) 0 (by omega) (mid+m-b) mid (by omega) (by omega) (by omega) (by omega) (by omega) hs' _ (by rfl) (by rfl) (by rfl) (by rfl) (by rfl) (by rfl) (by rfl) (by rfl) (by rfl) (by rfl)
  ·simp only [c3,if_false] at hs'
   have c3':¬ (mid:Int)<m:=by omega
   simp -implicitDefEqProofs (maxSteps:=1000000) (disch:=first|rfl|omega|assumption) only [go_sem,ltT,ltF,leT,hlen,z1,z2,e0,e2,e3,e4,e5,c3']
   exact bsC_loop hc hp a m b n (mid+m) (mid+m-1) mid hn (by omega) L hL hB (m-a+1) _ _ _ tail (m-a+1) 0 (by omega) a m (by omega) (by omega) (by omega) (by omega) (by omega) hs' _ (by rfl) (by rfl) (by rfl) (by rfl) (by rfl) (by rfl) (by rfl) (by rfl) (by rfl) (by rfl)
theorem small_ins {B:Nat} (key:Nat→Int) (a:Nat):∀ (q i:Nat) (L:List Nat),a<i→i+q≤L.length→Small B L→Small B (insOut key a L i q)
 | 0,_,_,_,_,h=>h
 | q+1,i,L,h1,h2,h=>by
  rw [insOut]
  exact small_ins key a q (i+1) _ (by omega) (by rw [insIn_len];omega) (insIn_small key a _ _ h (by omega))
theorem small_insS {B:Nat} (key:Nat→Int) {L:List Nat} {a b:Nat} (h:b≤L.length) (hB:Small B L):Small B (insS key L a b):=by
 rw [insS]
 by_cases c:a+1≤b
 ·exact small_ins key a _ _ _ (by omega) (by omega) hB
 ·rw [show b-(a+1)=0 by omega]
  exact hB
def stM1 (key:Nat→Int) (s n:Nat):Nat→List Nat→Nat→List Nat×Nat
 | 0,L,a=>(L,a)
 | f+1,L,a=>if a+2*s≤n then stM1 key s n f (sym key n L a (a+s) (a+2*s)) (a+2*s) else (L,a)
theorem stM1_spec (key:Nat→Int) {B:Nat} {s n:Nat} (hs:0<s):∀ (f:Nat) (L:List Nat) (a:Nat),n<f+a→a≤n→L.length=n→Small B L →
  stM key s n f L a=(if (stM1 key s n f L a).2+s<n then sym key n (stM1 key s n f L a).1 (stM1 key s n f L a).2 ((stM1 key s n f L a).2+s) n else (stM1 key s n f L a).1)∧(stM1 key s n f L a).1.length=n∧Small B (stM1 key s n f L a).1∧(stM1 key s n f L a).2≤n
 | 0,L,a,h1,h2,h3,h4=>by omega
 | f+1,L,a,h1,h2,h3,h4=>by
  rw [stM,stM1]
  by_cases c:a+2*s≤n
  ·rw [if_pos c,if_pos c]
   exact stM1_spec key hs f _ _ (by omega) c (by rw [sym_len];exact h3) (small_sym key _ _ _ _ _ (by omega) (by omega) (by omega) h4)
  ·rw [if_neg c,if_neg c]
   exact ⟨rfl,h3,h4,h2⟩
theorem st3_loop {fn:Fn} {cap:List AV} {key:Nat→Int} {B:Nat} (hc:Cmp fn cap key B) {p:Nat} (hp:p<H.length) (n s:Nat) (hn:n≤100000) (hs:0<s∧s≤200000) (N:Nat) (R0:List Nat) (Y:Nat) (K:List Item) (R:Option Done) (hK:∀ E:Env,E.get 0=.gsl p n→E.get 1=I n→E.get 2=.func fn [] cap→E.get 6=I s→E.get 7=I Y→Option.map (zAd H.length) (zAe cfg0 zA2 ⟨88,none,false,H.length⟩ K ⟨E,[],GH H p R0,none⟩)=R)  :
  ∀ (q j:Nat),j+q=N→∀ (L:List Nat),∀ (a:Nat),L.length=n→Small B L→a≤n→n<q+a→stM1 key s n q L a=(R0,Y)→∀ E:Env,E.get 0=.gsl p n→E.get 1=I n→E.get 2=.func fn [] cap→E.get 6=I s→E.get 7=I a→E.get 8=I ((a+2*s:Nat):Int) →
  Option.map (zAd H.length) (zAe cfg0 zA2 ⟨88,none,false,H.length⟩ (zA6 Tryz.f88 9::.inBlock 4::K) ⟨E,[],GH H p L,none⟩)=R:=by
 intro q
 skip
 induction q with
 | zero =>
  intro j hj L a hL hB ha hq hr E g0 g1 g2 g6 g7 g8
  have hk':¬ (j:Int)<((N:Nat):Int):=by omega
  simp only [zA6,zA4,zA5,zA7,zA3,↓reduceIte,Option.some.injEq,Nat.reduceEqDiff,reduceCtorEq,Tryz.f88]
  rw [zA0]
  exfalso
  omega
 | succ q ih =>
  intro j hj L a hL hB ha hq hr E g0 g1 g2 g6 g7 g8
  have hk':(j:Int)<((N:Nat):Int):=by omega
  have hk2:j<N:=by omega
  rw [stM1] at hr
  by_cases c:a+2*s≤n
  ·rw [if_pos c] at hr
   have c':((a+2*s:Nat):Int)≤n:=by omega
   have h1:=so_sym hc hp hn n L a (a+s) (a+2*s) (by omega) (by omega) (by omega) c hL hB
   have e1:(a:Int)+s=((a+s:Nat):Int):=rfl
   have e2:(2:Int)*s=((2*s:Nat):Int):=rfl
   have e3:((a+2*s:Nat):Int)+((2*s:Nat):Int)=((a+2*s+2*s:Nat):Int):=rfl
   simp only [zA6,zA4,zA5,zA7,zA3,↓reduceIte,Option.some.injEq,Nat.reduceEqDiff,reduceCtorEq,Tryz.f88]
   rw [zA0]
   simp -implicitDefEqProofs (maxSteps:=1000000) (disch:=first|rfl|omega|assumption) only [go_sem,g0,g1,g2,g6,g7,g8,ltT,ltF,leT,hk',c',e1,h1,e2,e3]
   exact ih (j+1) (by omega) _ (a+2*s) (by rw [sym_len];exact hL) (small_sym key _ _ _ _ _ (by omega) (by omega) (by omega) hB) c (by omega) hr _ (by exact g0) (by exact g1) (by exact g2) (by exact g6) (by rfl) (by show I _=I _;congr 1;omega)
  ·rw [if_neg c] at hr
   simp only [Prod.mk.injEq] at hr
   obtain ⟨rfl,rfl⟩:=hr
   have c':¬ ((a+2*s:Nat):Int)≤n:=by omega
   simp only [zA6,zA4,zA5,zA7,zA3,↓reduceIte,Option.some.injEq,Nat.reduceEqDiff,reduceCtorEq,Tryz.f88]
   rw [zA0]
   simp -implicitDefEqProofs (maxSteps:=1000000) (disch:=first|rfl|omega|assumption) only [go_sem,g0,g1,g2,g6,g7,g8,ltT,ltF,leT,hk',c']
   exact hK _ (by exact g0) (by exact g1) (by exact g2) (by exact g6) (by exact g7)
theorem st2_loop {fn:Fn} {cap:List AV} {key:Nat→Int} {B:Nat} (hc:Cmp fn cap key B) {p:Nat} (hp:p<H.length) (n:Nat) (hn:n≤100000) (N:Nat) (R0:List Nat) :
  ∀ (q j:Nat),j+q=N→∀ (L:List Nat),∀ (s:Nat),L.length=n→Small B L→0<s∧s≤200000→n<q+s→stP key n q L s=R0→∀ E:Env,E.get 0=.gsl p n→E.get 1=I n→E.get 2=.func fn [] cap→E.get 6=I s →
  Option.map (zAd H.length) (zAe cfg0 zA2 ⟨88,none,false,H.length⟩ (zA5 Tryz.f88 7) ⟨E,[],GH H p L,none⟩)=some ⟨.ret (.tup []),GH H p R0,none⟩:=by
 intro q
 skip
 induction q with
 | zero =>
  intro j hj L s hL hB hs hq hr E g0 g1 g2 g6
  have hk':¬ (j:Int)<((N:Nat):Int):=by omega
  simp only [stP] at hr
  subst hr
  simp only [zA6,zA4,zA5,zA7,zA3,↓reduceIte,Option.some.injEq,Nat.reduceEqDiff,reduceCtorEq,Tryz.f88]
  rw [zA0]
  have c':¬ (s:Int)<n:=by omega
  simp -implicitDefEqProofs (maxSteps:=1000000) (disch:=first|rfl|omega|assumption) only [go_sem,g0,g1,g2,g6,ltT,ltF,leT,hk',c']
 | succ q ih =>
  intro j hj L s hL hB hs hq hr E g0 g1 g2 g6
  have hk':(j:Int)<((N:Nat):Int):=by omega
  have hk2:j<N:=by omega
  rw [stP] at hr
  by_cases c:s<n
  ·rw [if_pos c] at hr
   have c':(s:Int)<n:=by omega
   obtain ⟨m1,m2,m3,m4⟩:=stM1_spec key (B:=B) (s:=s) (n:=n) hs.1 (n+1) L 0 (by omega) (by omega) hL hB
   obtain ⟨x,hx⟩:∃ x,stM1 key s n (n+1) L 0=x:=⟨_,rfl⟩
   obtain ⟨L',Y⟩:=x
   rw [hx] at m1 m2 m3 m4
   simp only at m1 m2 m3 m4
   rw [m1] at hr
   have e2:(2:Int)*s=((0+2*s:Nat):Int):=by omega
   have e3:(s:Int)*2=((2*s:Nat):Int):=by omega
   simp only [zA6,zA4,zA5,zA7,zA3,↓reduceIte,Option.some.injEq,Nat.reduceEqDiff,reduceCtorEq,Tryz.f88]
   rw [zA0]
   simp -implicitDefEqProofs (maxSteps:=1000000) (disch:=first|rfl|omega|assumption) only [go_sem,g0,g1,g2,g6,ltT,ltF,leT,hk',c',e2]
   refine st3_loop hc hp n s hn hs (n+1) L' Y _ _ (fun E g0 g1 g2 g6 g7=>?_) (n+1) 0 (by omega) L 0 hL hB (by omega) (by omega) hx _ (by exact g0) (by exact g1) (by exact g2) (by exact g6) (by rfl) (by show I _=I _;congr 2;omega)
   have e1:(Y:Int)+s=((Y+s:Nat):Int):=rfl
   by_cases d:Y+s<n
   ·rw [if_pos d] at hr
    have d':((Y+s:Nat):Int)<n:=by omega
    have h1:=so_sym hc hp hn n L' Y (Y+s) n (by omega) (by omega) d (Nat.le_refl _) m2 m3
    simp -implicitDefEqProofs (maxSteps:=1000000) (disch:=first|rfl|omega|assumption) only [go_sem,g0,g1,g2,g6,ltT,ltF,leT,hk',g0,g1,g2,g6,g7,e1,d',h1,e3]
    exact ih (j+1) (by omega) _ (2*s) (by rw [sym_len];exact m2) (small_sym key _ _ _ _ _ (by omega) d (by omega) m3) (by omega) (by omega) hr _ (by exact g0) (by exact g1) (by exact g2) (by rfl)
   ·rw [if_neg d] at hr
    have d':¬ ((Y+s:Nat):Int)<n:=by omega
    simp -implicitDefEqProofs (maxSteps:=1000000) (disch:=first|rfl|omega|assumption) only [go_sem,g0,g1,g2,g6,ltT,ltF,leT,hk',g0,g1,g2,g6,g7,e1,d',e3]
    exact ih (j+1) (by omega) _ (2*s) m2 m3 (by omega) (by omega) hr _ (by exact g0) (by exact g1) (by exact g2) (by rfl)
  ·rw [if_neg c] at hr
   subst hr
   have c':¬ (s:Int)<n:=by omega
   simp only [zA6,zA4,zA5,zA7,zA3,↓reduceIte,Option.some.injEq,Nat.reduceEqDiff,reduceCtorEq,Tryz.f88]
   rw [zA0]
   simp -implicitDefEqProofs (maxSteps:=1000000) (disch:=first|rfl|omega|assumption) only [go_sem,g0,g1,g2,g6,ltT,ltF,leT,hk',c']
theorem st1_loop {fn:Fn} {cap:List AV} {key:Nat→Int} {B:Nat} (hc:Cmp fn cap key B) {p:Nat} (hp:p<H.length) (n:Nat) (hn:n≤100000) (N:Nat) (R0:List Nat) :
  ∀ (q j:Nat),j+q=N→∀ (L:List Nat),∀ (a:Nat),L.length=n→Small B L→a≤n→n<q+a→stI key n q L a=R0→∀ E:Env,E.get 0=.gsl p n→E.get 1=I n→E.get 2=.func fn [] cap→E.get 6=I 20→E.get 7=I a→E.get 8=I ((a+20:Nat):Int) →
  Option.map (zAd H.length) (zAe cfg0 zA2 ⟨88,none,false,H.length⟩ (zA5 Tryz.f88 2) ⟨E,[],GH H p L,none⟩)=some ⟨.ret (.tup []),GH H p (stP key n (n+1) R0 20),none⟩:=by
 intro q
 skip
 induction q with
 | zero =>
  intro j hj L a hL hB ha hq hr E g0 g1 g2 g6 g7 g8
  have hk':¬ (j:Int)<((N:Nat):Int):=by omega
  simp only [zA6,zA4,zA5,zA7,zA3,↓reduceIte,Option.some.injEq,Nat.reduceEqDiff,reduceCtorEq,Tryz.f88]
  rw [zA0]
  exfalso
  omega
 | succ q ih =>
  intro j hj L a hL hB ha hq hr E g0 g1 g2 g6 g7 g8
  have hk':(j:Int)<((N:Nat):Int):=by omega
  have hk2:j<N:=by omega
  rw [stI] at hr
  by_cases c:a+20≤n
  ·rw [if_pos c] at hr
   have c':((a+20:Nat):Int)≤n:=by omega
   have h1:=so_ins hc hp hn (a:=a) (b:=a+20) (by omega) hL hB
   have e3:((a+20:Nat):Int)+20=((a+20+20:Nat):Int):=rfl
   simp only [zA6,zA4,zA5,zA7,zA3,↓reduceIte,Option.some.injEq,Nat.reduceEqDiff,reduceCtorEq,Tryz.f88]
   rw [zA0]
   simp -implicitDefEqProofs (maxSteps:=1000000) (disch:=first|rfl|omega|assumption) only [go_sem,g0,g1,g2,g6,g7,g8,ltT,ltF,leT,hk',c',h1,e3]
   exact ih (j+1) (by omega) _ (a+20) (by rw [insS_len];exact hL) (small_insS key (by omega) hB) c (by omega) hr _ (by exact g0) (by exact g1) (by exact g2) (by exact g6) (by rfl) (by rfl)
  ·rw [if_neg c] at hr
   have c':¬ ((a+20:Nat):Int)≤n:=by omega
   have h1:=so_ins hc hp hn (a:=a) (b:=n) (by omega) hL hB
   have h2:=st2_loop hc hp n hn (n+1) _ (n+1) 0 (by omega) R0 20 (by rw [← hr,insS_len];exact hL) (by rw [← hr];exact small_insS key (by omega) hB) (by omega) (by omega) rfl
   rw [hr] at h1
   simp only [zA6,zA4,zA5,zA7,zA3,↓reduceIte,Option.some.injEq,Nat.reduceEqDiff,reduceCtorEq,Tryz.f88]
   rw [zA0]
   simp -implicitDefEqProofs (maxSteps:=1000000) (disch:=first|rfl|omega|assumption) only [go_sem,g0,g1,g2,g6,g7,g8,ltT,ltF,leT,hk',c',h1]
   exact h2 _ (by exact g0) (by exact g1) (by exact g2) (by exact g6)
theorem so_stable {fn:Fn} {cap:List AV} {key:Nat→Int} {B:Nat} (hc:Cmp fn cap key B) {p:Nat} (hp:p<H.length) {n:Nat} (hn:n≤100000) {L:List Nat} (hL:L.length=n) (hB:Small B L) :
  zA9 cfg0 zA2 false 88 [.gsl p n,I n,.func fn [] cap] (GH H p L) none=some ⟨.ret (.tup []),GH H p (stab key n L),none⟩:=by
 have hlen:∀ M,(GH H p M).length=H.length:=fun M=>by simp [GH]
 have h1:=st1_loop hc hp n hn (n+1) _ (n+1) 0 (by omega) L 0 hL hB (by omega) (by omega) rfl
 refine (zA1 fn88 rfl (by simp [Tryz.f88])).trans ?_
 simp -implicitDefEqProofs (maxSteps:=1000000) (disch:=first|rfl|omega|assumption) only [go_sem,ltT,ltF,leT,hlen]
 exact h1 _ (by rfl) (by rfl) (by rfl) (by rfl) (by rfl) (by rfl)
theorem so_sort {fn:Fn} {cap:List AV} {key:Nat→Int} {B:Nat} (hc:Cmp fn cap key B) {p:Nat} (hp:p<H.length) {n:Nat} (hn:n≤100000) {L:List Nat} (hL:L.length=n) (hB:Small B L) :
  zA9 cfg0 zA2 false 71 [.gsl p n,.func fn [] cap] (GH H p L) none=some ⟨.ret (.tup []),GH H p (stab key n L),none⟩:=by
 have hlen:∀ M,(GH H p M).length=H.length:=fun M=>by simp [GH]
 have h1:=so_stable hc hp hn hL hB
 have hg:(GH H p L)[p]? = some (.grow 1 (L.map U)):=List.getElem?_set_self hp
 refine (zA1 fn71 rfl (by simp [Tryz.f71])).trans ?_
 simp -implicitDefEqProofs (maxSteps:=1000000) (disch:=first|rfl|omega|assumption) only [go_sem,ltT,ltF,leT,hg,h1,hlen,hL,List.length_map]
def popK (n:Nat):Int:=pop n
def firstF (b:Nat→Bool) (L:List Nat) (j q:Nat):Option Nat:=findF (fun i=>if b (L.getD i 0) then some (L.getD i 0) else none) j q
def firA:Option Nat→AV
 | some x=>.tup [U x,.bool true]
 | none=>.tup [U 0,.bool false]
theorem firstU_loop {v:AV} {L:List Nat} (hs:SlOk H 1 v (L.map U)) (hl:L.length≤1000000) (fn:Fn) (fst cap:List AV) (b:Nat→Bool) (hc:∀ (b0 j:Nat) (G:Heap),j<L.length→zB1 cfg0 zA2 b0 false fn (fst++[U (L.getD j 0)]) cap (H++G) none=some ⟨.ret (.bool (b (L.getD j 0))),H++G,none⟩) (r:Option Nat) :
  ∀ (q j:Nat),j+q=L.length→firstF b L j q=r→∀ E:Env,E.get 3=.ptr H.length 0→E.get 4=U 0→E.get 8=v→E.get 9=I L.length→E.get 10=I j →
  Option.map (zAd H.length) (zAe cfg0 zA2 ⟨41,none,false,H.length⟩ (zA5 Tryz.f41 2) ⟨E,[],H++[.box (.agg [.func fn fst cap])],none⟩)=some ⟨.ret (firA r),H,none⟩:=by
 intro q
 obtain ⟨a1,a2,a3,a4,a5⟩:=hs.fF (d:=0)
 induction q with
 | zero =>
  intro j hj hr E g3 g4 g8 g9 g10
  have hk':¬ (j:Int)<((L.length:Nat):Int):=by omega
  simp only [firstF,findF] at hr
  subst hr
  simp only [zA6,zA4,zA5,zA7,zA3,↓reduceIte,Option.some.injEq,Nat.reduceEqDiff,reduceCtorEq,Tryz.f41]
  rw [zA0]
  simp only [firA]
  simp -implicitDefEqProofs (maxSteps:=1000000) (disch:=first|rfl|omega|assumption) only [go_sem,g3,g4,g8,g9,g10,ltT,ltF,leT,hk']
  rfl
 | succ q ih =>
  intro j hj hr E g3 g4 g8 g9 g10
  have hk':(j:Int)<((L.length:Nat):Int):=by omega
  have hk2:j<L.length:=by omega
  have hu:firstF b L j (q+1)=if b (L.getD j 0) then some (L.getD j 0) else firstF b L (j+1) q:=by
   simp only [firstF,findF]
   by_cases h:b (L.getD j 0)=true
   ·simp only [if_pos h]
   ·simp only [if_neg h]
  rw [hu] at hr
  have hx:=fun b0=>hc b0 j [.box (.agg [.func fn fst cap])] hk2
  obtain ⟨x,hxe⟩:∃ x,L.getD j 0=x:=⟨_,rfl⟩
  rw [hxe] at hr hx
  rcases Bool.eq_false_or_eq_true (b x) with hb | hb
  ·rw [hb] at hx
   rw [if_pos hb] at hr
   subst hr
   simp only [firA]
   simp only [zA6,zA4,zA5,zA7,zA3,↓reduceIte,Option.some.injEq,Nat.reduceEqDiff,reduceCtorEq,Tryz.f41]
   rw [zA0]
   simp -implicitDefEqProofs (maxSteps:=1000000) (disch:=first|rfl|omega|assumption) only [go_sem,g3,g4,g8,g9,g10,ltT,ltF,leT,hk',a1,a3,hxe,hx]
   done
  ·rw [hb] at hx
   rw [if_neg (by simp [hb])] at hr
   simp only [zA6,zA4,zA5,zA7,zA3,↓reduceIte,Option.some.injEq,Nat.reduceEqDiff,reduceCtorEq,Tryz.f41]
   rw [zA0]
   simp -implicitDefEqProofs (maxSteps:=1000000) (disch:=first|rfl|omega|assumption) only [go_sem,g3,g4,g8,g9,g10,ltT,ltF,leT,hk',a1,a3,hxe,hx]
   exact ih (j+1) (by omega) hr _ (by exact g3) (by exact g4) (by exact g8) (by exact g9) (by rfl)
theorem wr_firstU {v:AV} {L:List Nat} (hs:SlOk H 1 v (L.map U)) (hl:L.length≤1000000) (fn:Fn) (fst cap:List AV) (b:Nat→Bool) (hf:(AV.func fn fst cap).stored=true)
  (hc:∀ (b0 j:Nat) (G:Heap),j<L.length→zB1 cfg0 zA2 b0 false fn (fst++[U (L.getD j 0)]) cap (H++G) none=some ⟨.ret (.bool (b (L.getD j 0))),H++G,none⟩) :
  zA9 cfg0 zA2 false 41 [v,.agg [.func fn fst cap]] H none=some ⟨.ret (firA (firstF b L 0 L.length)),H,none⟩:=by
 have h1:=firstU_loop hs hl fn fst cap b hc _ L.length 0 (by omega) rfl
 have hln:=hs.len
 have s0:=hs.scal
 refine (zA1 fn41 rfl (by simp [Tryz.f41])).trans ?_
 simp -implicitDefEqProofs (maxSteps:=1000000) (disch:=first|rfl|omega|assumption) only [go_sem,ltT,ltF,leT,hln,s0,List.length_map]
 exact h1 _ (by rfl) (by rfl) (by rfl) (by rfl) (by rfl)
end Go.Ab
namespace Go.Ab
open Go.Proofs
set_option linter.unusedSimpArgs false
set_option linter.unusedVariables false
set_option maxRecDepth 100000
set_option maxHeartbeats 2000000
variable {H:Heap}
theorem pow_le {j n:Nat} (h:j≤n):(2:Nat)^j≤2^n:=Nat.pow_le_pow_right (by omega) h
theorem wN {m:Nat} (h:m<2^62):IntKind.i64.wrap (m:Int)=m:=w64 (by omega) (by omega)
abbrev pw (n:Nat):Int:=((2^n:Nat):Int)
theorem power_loop (n:Nat) (hn:n≤60) :
  ∀ (q j:Nat),j+q=n→∀ E:Env,E.get 0=I n→E.get 3=I (pw j)→E.get 4=I j →
  Option.map (zAd H.length) (zAe cfg0 zA2 ⟨75,none,false,H.length⟩ (zA5 Tryz.f75 3) ⟨E,[],H,none⟩)=some ⟨.ret (I (pw n)),H,none⟩:=by
 intro q
 skip
 induction q with
 | zero =>
  intro j hj  E g0 g3 g4
  have hk':¬ (j:Int)<((n:Nat):Int):=by omega
  have ej:j=n:=by omega
  subst ej
  simp only [zA6,zA4,zA5,zA7,zA3,↓reduceIte,Option.some.injEq,Nat.reduceEqDiff,reduceCtorEq,Tryz.f75]
  rw [zA0]
  simp -implicitDefEqProofs (maxSteps:=1000000) (disch:=first|rfl|omega|assumption) only [go_sem,g0,g3,g4,ltT,ltF,leT,hk']
 | succ q ih =>
  intro j hj  E g0 g3 g4
  have hk':(j:Int)<((n:Nat):Int):=by omega
  have hk2:j<n:=by omega
  have p1:=pow_le (show j+1≤60 by omega)
  have e1:(2:Int)*((2^j:Nat):Int)=((2^(j+1):Nat):Int):=by rw [Nat.pow_succ];omega
  have e2:=wN (m:=2^(j+1)) (by omega)
  simp only [zA6,zA4,zA5,zA7,zA3,↓reduceIte,Option.some.injEq,Nat.reduceEqDiff,reduceCtorEq,Tryz.f75]
  rw [zA0]
  simp -implicitDefEqProofs (maxSteps:=1000000) (disch:=first|rfl|omega|assumption) only [go_sem,g0,g3,g4,ltT,ltF,leT,hk',e1,e2]
  exact ih (j+1) (by omega) _ (by exact g0) (by rfl) (by rfl)
theorem ref_power (n:Nat) (hn:n≤60) (H:Heap):zA9 cfg0 zA2 false 75 [I n] H none=some ⟨.ret (I (pw n)),H,none⟩:=by
 refine (zA1 fn75 rfl (by simp [Tryz.f75])).trans ?_
 simp -implicitDefEqProofs (maxSteps:=1000000) (disch:=first|rfl|omega|assumption) only [go_sem,ltT,ltF,leT]
 exact power_loop n hn n 0 (by omega) _ (by rfl) (by rfl) (by rfl)
theorem ref_Has {s n:Nat} (hs:s<2^60) (hn:n≤60) (H:Heap):zA9 cfg0 zA2 false 47 [I s,I n] H none=some ⟨.ret (.bool (s.testBit n)),H,none⟩:=by
 have hp:=fun G:Heap=>ref_power n hn G
 have p1:=pow_le hn
 have p2:0<(2:Nat)^n:=Nat.two_pow_pos n
 have e1:((s:Nat):Int).tdiv ((2^n:Nat):Int)=((s/2^n:Nat):Int):=rfl
 have e2:((s/2^n:Nat):Int).tmod 2=((s/2^n%2:Nat):Int):=rfl
 have e3:(((s/2^n%2:Nat):Int)==1)=s.testBit n:=by
  rw [Nat.testBit_eq_decide_div_mod_eq]
  have:s/2^n%2=0∨s/2^n%2=1:=by omega
  rcases this with h | h<;>rw [h]<;>rfl
 have z:((2^n:Nat):Int)≠0:=by omega
 have d:=div_lt (j:=n) hs
 have e4:IntKind.i64.wrap ((s/2^n:Nat):Int)=((s/2^n:Nat):Int):=wN (by omega)
 refine (zA1 fn47 rfl (by simp [Tryz.f47])).trans ?_
 simp -implicitDefEqProofs (maxSteps:=1000000) (disch:=first|rfl|omega|assumption) only [go_sem,ltT,ltF,leT,hp,e1,e2,e3,e4,z]
def stA (xs:List Pc):AV:=.sl false (xs.map Pc.av)
def XO (H:Heap) (P:Nat) (outs:List (List Pc)):AO:=.grow 1 (if P=H.length then outs.map stA else [])
def stR (H:Heap) (P:Nat) (outs:List (List Pc)):Option Done:=some ⟨.ret (if P<H.length then .gsl P outs.length else .sl false (outs.map stA)),H.set P (.grow 1 (outs.map stA)),none⟩
def OutAt (H:Heap) (P:Nat) (v:AV) (outs:List (List Pc)):Prop :=
 (P<H.length∧v=.gsl P outs.length∧H[P]? = some (.grow 1 (outs.map stA)))∨(P=H.length∧v=.sl true []∧outs=[])
structure Beg (w:Wg) (b:Bool) (s:Nat) (xs:List Pc) (p:Pl):Prop where
 ok:p.Ok w
 px:∀ x∈xs,w.pok x
 nd:(xs.map Pc.b).Nodup
 hl:w.hL b none xs
 lf:∀ i:Nat,p.left.testBit i=true↔s.testBit i=true∧∀ x∈xs,x.b≠(i:Int)
 tp:p.tp=xs.getLast?
 cn:xs.length+cnt p.left=cnt s
theorem hL_snoc {w:Wg} {b:Bool} {x:Pc}:∀ (xs:List Pc) (o:Option Pc),w.hL b o (xs++[x])↔w.hL b o xs∧∀ y,(xs.getLast?.or o)=some y→w.jt b y x=0
 | [],o=>by simp [Wg.hL]
 | z::r,o=>by
  have ih:=hL_snoc (w:=w) (b:=b) (x:=x) r (some z)
  have e:((z::r).getLast?.or o)=(r.getLast?.or (some z)):=by
   cases r with
   | nil=>rfl
   | cons a s =>
    rw [List.getLast?_cons_cons,List.getLast?_eq_some_getLast (List.cons_ne_nil a s)]
    rfl
  simp only [List.cons_append,Wg.hL,ih,e]
  exact ⟨fun ⟨a,b,c⟩=>⟨⟨a,b⟩,c⟩,fun ⟨⟨a,b⟩,c⟩=>⟨a,b,c⟩⟩
theorem tp_iff {p:Pl} {f:Pc→Prop}:(p.some=true→f p.top)↔∀ y,p.tp=some y→f y:=by
 simp only [Pl.tp]
 cases p.some<;>simp
theorem Beg.cond {w:Wg} {b:Bool} {s:Nat} {xs:List Pc} {p:Pl} (hb:Beg w b s xs p) {x:Pc} (hx:w.pok x) :
  x∈w.plL b p↔s.testBit x.b.toNat=true∧w.stk (xs++[x])=true∧w.hld b (xs++[x])=true:=by
 have h3:=tp_iff (p:=p) (f:=fun y=>w.jt b y x=0)
 rw [plL_iff,h3,hb.tp,hb.lf,stk_iff,hld_hL,hL_snoc,Option.or_none]
 simp only [List.map_append,List.map_cons,List.map_nil]
 rw [List.nodup_append]
 constructor
 ·rintro ⟨_,⟨h1,h2⟩,h3⟩
  refine ⟨h1,⟨by simp,?_,hb.nd,List.nodup_cons.2 ⟨by simp,List.nodup_nil⟩,?_⟩,hb.hl,h3⟩
  ·intro y hy
   rcases List.mem_append.1 hy with hy | hy
   ·exact hb.px y hy
   ·rw [List.mem_singleton.1 hy];exact hx
  ·intro y hy z hz
   rw [List.mem_singleton.1 hz]
   obtain ⟨k,k1,rfl⟩:=List.mem_map.1 hy
   have:=h2 k k1
   have:=hx.1
   intro e
   exact h2 k k1 (by omega)
 ·rintro ⟨h1,⟨_,h4,_,_,h5⟩,_,h3⟩
  refine ⟨hx,⟨h1,fun y hy e=>?_⟩,h3⟩
  have:=hx.1
  exact h5 y.b (List.mem_map.2 ⟨y,hy,rfl⟩) x.b (List.mem_singleton.2 rfl) (by omega)
def Wg.extL (w:Wg) (b:Bool) (n:Nat) (xs:List Pc) (p:Pl) (l:List Pc):List (List Pc):=(l.flatMap fun x=>(w.ext b n (p.next x)).map (x::·)).map (xs++·)
def Wg.stks (w:Wg) (b:Bool) (s:Nat):List (List Pc):=w.ext b (cnt s) ⟨s,pc0,false⟩
theorem bst_at {w:Wg} {vb va:AV} (h:WgAt H w vb va) (ms:Memo) (p:Pl) (G:Heap):TlAt (H++(.box (.agg [vb,va])::.box (I 0)::.box (.agg [vb,va])::.map 66 (apM w.ps)::.box (.agg (shC vb va (fcsN w.b) (vwA false) (H.length+3)))::.box (.ptr (H.length+4) 0)::.box (.func (.func 76) [] [.ptr (H.length+10) 0,.ptr (H.length+8) 0,.ptr (H.length+11) 0])::.box (p).av::.box (.ptr (H.length+4) 0)::.map 112 (kM ms)::.box (.map (H.length+9))::.box (.func (.func 76) [] [.ptr (H.length+10) 0,.ptr (H.length+8) 0,.ptr (H.length+11) 0])::G)) (H.length+9) (H.length+10) (H.length+8) (H.length+11) (H.length+4) (H.length+3) w false vb va ms where
 c1:=by rw [zAi 10];rfl
 mp:=by rw [zAi 9];rfl
 c2:=by rw [zAi 8];rfl
 c3:=by rw [zAi 11];rfl
 sh:=⟨by rw [zAi 4];rfl,by rw [zAi 3];rfl,h.app _⟩
 nm:=by omega
theorem bst_of {w:Wg} {vb va:AV} (h:WgAt H w vb va) (ho:w.Ok) {ms:Memo} (hg:MemoG w false ms) (p:Pl) {p':Pl} (hp:p'.Ok w) (G:Heap) :
  zA9 cfg0 zA2 false 76 [p'.av,.ptr (H.length+10) 0,.ptr (H.length+8) 0,.ptr (H.length+11) 0] (H++(.box (.agg [vb,va])::.box (I 0)::.box (.agg [vb,va])::.map 66 (apM w.ps)::.box (.agg (shC vb va (fcsN w.b) (vwA false) (H.length+3)))::.box (.ptr (H.length+4) 0)::.box (.func (.func 76) [] [.ptr (H.length+10) 0,.ptr (H.length+8) 0,.ptr (H.length+11) 0])::.box (p).av::.box (.ptr (H.length+4) 0)::.map 112 (kM ms)::.box (.map (H.length+9))::.box (.func (.func 76) [] [.ptr (H.length+10) 0,.ptr (H.length+8) 0,.ptr (H.length+11) 0])::G)) none=some ⟨.ret (tlA (w.tal false p')),H++(.box (.agg [vb,va])::.box (I 0)::.box (.agg [vb,va])::.map 66 (apM w.ps)::.box (.agg (shC vb va (fcsN w.b) (vwA false) (H.length+3)))::.box (.ptr (H.length+4) 0)::.box (.func (.func 76) [] [.ptr (H.length+10) 0,.ptr (H.length+8) 0,.ptr (H.length+11) 0])::.box (p).av::.box (.ptr (H.length+4) 0)::.map 112 (kM (w.kp false ms p'))::.box (.map (H.length+9))::.box (.func (.func 76) [] [.ptr (H.length+10) 0,.ptr (H.length+8) 0,.ptr (H.length+11) 0])::G),none⟩:=by
 rw [of_tal ho (bst_at h ms p G) hp hg,set_at' 9]
 rfl
def Wg.best (w:Wg):Int×Option (List Pc)×Int:=if w.valid then (if 0<(w.tal false w.full).1 then ((w.tal false w.full).2,some (w.bestL w.bs.length w.full),0) else (0,none,4)) else (0,none,1)
def plA:Option (List Pc)→AV
 | none=>.sl true []
 | some l=>.sl false (l.map Pc.av)
theorem cnt_full {n:Nat} (h:n≤5):cnt (2^n-1)=n:=by
 have key:∀ n:Nat,n<6→cnt (2^n-1)=n:=by decide +kernel
 exact key n (by omega)
theorem wr_Best {w:Wg} {vb va:AV} (h:WgAt H w vb va) (hl:w.bs.length≤1000∧w.ps.length≤1000) :
  zA9 cfg0 zA2 false 14 [.agg [vb,va]] H none=some ⟨.ret (.tup [I w.best.1,plA w.best.2.1,I w.best.2.2]),H,none⟩:=by
 have s1:=h.bs.scal
 have s2:=h.ps.scal
 have hD:=fun (e:Int) (a:AO) (G:Heap)=>wd_Bests (H.length+1) e 0 (H++(a::.box (I 0)::G)) (by rw [zAi 1];rfl)
 simp only [Wg.best]
 cases hv:w.valid
 ·have hO:=wr_openX (h.app [.box (.agg [vb,va]),.box (I 0)]) hl hv
  simp only [Bool.false_eq_true,if_false,plA]
  refine (zA1 fn14 rfl (by simp [Tryz.f14])).trans ?_
  simp -implicitDefEqProofs (maxSteps:=1000000) (disch:=first|rfl|omega|assumption) only [go_sem,ltT,ltF,leT,s1,s2,hO,hD]
  done
 have ho:=w.valid_iff.1 hv
 have hO:=wr_openA (h.app [.box (.agg [vb,va]),.box (I 0)]) hl hv
 have hS:=opG_in (H:=H) (G0:=[.box (.agg [vb,va]),.box (I 0)]) (n:=H.length+2) (by simp) h
 have hA:∀ G:Heap,_:=fun G=>wr_all (l:=H.length+4) (m:=H.length+3) (b:=false) ((show ShAt (H++(.box (.agg [vb,va])::.box (I 0)::.box (.agg [vb,va])::.map 66 (apM w.ps)::.box (.agg (shC vb va (fcsN w.b) (vwA false) (H.length+3)))::G)) (H.length+4) (H.length+3) w false vb va from ⟨by rw [zAi 4];rfl,by rw [zAi 3];rfl,h.app _⟩)) ho.n.2
 have hT:=fun G=>wr_tallies (H.length+4) G
 have g0:=memG_nil w false
 have g1:=kp_g ho g0 (full_ok w)
 have g2:=kp_g ho g1 (full_ok w)
 have hF1:=fun G=>bst_of h ho g0 w.full (full_ok w) G
 have hF2:=fun G=>bst_of h ho g1 w.full (full_ok w) G
 have hfl:w.full=⟨2^w.bs.length-1,pc0,false⟩:=rfl
 have hcf:cnt w.full.left=w.bs.length:=cnt_full ho.n.2
 by_cases ht:0<(w.tal false w.full).1
 ·have h1:=best_loop h ho (w.tal false w.full).2 w.bs.length (by have:=ho.n.2;simp only [Wg.n] at this;omega) (w.bestL w.bs.length w.full) w.bs.length 0 (by omega) [] [] trivial _ w.full [] (full_ok w) g2 hcf ht rfl rfl
  simp only [if_true,if_pos ht,plA]
  have ek:kM []=[]:=rfl
  rw [hfl] at hF1 hF2 h1 ht ⊢
  simp only [opG,tlG,Pl.av,tlA,pc0,ek,List.map_nil,List.length_nil,List.length_append,List.length_cons,List.length_nil,Nat.zero_add,Nat.reduceAdd,Nat.add_assoc,List.append_assoc,List.cons_append,List.nil_append,List.append_nil] at hO hA hT hF1 hF2 h1 ht ⊢
  refine (zA1 fn14 rfl (by simp [Tryz.f14])).trans ?_
  simp -implicitDefEqProofs (maxSteps:=1000000) (disch:=first|rfl|omega|assumption) only [go_sem,ltT,ltF,leT,s1,s2,hO]
  rw [zAa];rotate_left;kernel_rfl
  simp -implicitDefEqProofs (maxSteps:=1000000) (disch:=first|rfl|omega|assumption) only [go_sem,ltT,ltF,leT,s1,s2,hO,hA,hT,hF1,hF2,zB5,ht]
  exact h1 _ (by rfl) (by rfl) (by rfl) (by rfl) (by rfl) (by rfl) (by rfl) (by rfl)
 ·simp only [if_true,if_neg ht,plA]
  have ek:kM []=[]:=rfl
  rw [hfl] at hF1 ht
  simp only [opG,tlG,Pl.av,tlA,pc0,ek,List.length_append,List.length_cons,List.length_nil,Nat.zero_add,Nat.reduceAdd,Nat.add_assoc,List.append_assoc,List.cons_append,List.nil_append,List.append_nil] at hO hA hT hF1 ht ⊢
  refine (zA1 fn14 rfl (by simp [Tryz.f14])).trans ?_
  simp -implicitDefEqProofs (maxSteps:=1000000) (disch:=first|rfl|omega|assumption) only [go_sem,ltT,ltF,leT,s1,s2,hO]
  rw [zAa];rotate_left;kernel_rfl
  simp -implicitDefEqProofs (maxSteps:=1000000) (disch:=first|rfl|omega|assumption) only [go_sem,ltT,ltF,leT,s1,s2,hO,hA,hT,hF1,zB5,ht,hD]
  done
end Go.Ab
