/- WringTells. -/
import Derived.Test.YtcnfneofbflimaaGreatKK10
import Derived.Test.YtcnfneofbflimaaGreatKK8
import Derived.Test.YtcnfneofbflimaaGreatKK7
namespace Go.Ab
open Go.Proofs
set_option linter.unusedSimpArgs false
set_option linter.unusedVariables false
set_option maxRecDepth 100000
set_option maxHeartbeats 2000000
variable {H:Heap}
def sumF (f:Nat→Int):Nat→Nat→Int
 | _,0=>0
 | j,q+1=>f j+sumF f (j+1) q
theorem foldF_pair (f g:Nat→Int):∀ (q j:Nat) (a:Int×Int),foldF (fun (a:Int×Int) i=>(a.1+f i,a.2+g i)) a j q=(a.1+sumF f j q,a.2+sumF g j q)
 | 0,j,a=>by simp [foldF,sumF]
 | q+1,j,a=>by
  rw [foldF,foldF_pair f g q (j+1)]
  simp only [sumF]
  ext<;>simp only<;>omega
theorem sumF_shift (f:Nat→Int):∀ (q j:Nat),sumF (fun i=>f (i-1)) (j+1) q=sumF f j q
 | 0,_=>rfl
 | q+1,j=>by
  simp only [sumF]
  rw [sumF_shift f q (j+1)]
  rfl
theorem sumF_add (f g:Nat→Int):∀ (q j:Nat),sumF (fun i=>f i+g i) j q=sumF f j q+sumF g j q
 | 0,_=>rfl
 | q+1,j=>by
  simp only [sumF]
  rw [sumF_add f g q (j+1)]
  omega
theorem sumF_con {f g:Nat→Int}:∀ (q j:Nat),(∀ i,j≤i→i<j+q→f i=g i)→sumF f j q=sumF g j q
 | 0,_,_=>rfl
 | q+1,j,h=>by
  simp only [sumF]
  rw [h j (by omega) (by omega),sumF_con q (j+1) (fun i h1 h2=>h i (by omega) (by omega))]
theorem sum_app (a b:List (Int×Int)):sum1 (a++b)=sum1 a+sum1 b∧sum2 (a++b)=sum2 a+sum2 b:=by
 simp [sum1,sum2]
theorem lenF_sum (w:Wg) (xs:List Pc):∀ (q j:Nat),sum1 (w.lenF xs j q)=sumF (fun i=>(w.b (pcA xs i).b.toNat).lo+if i=0 then 0 else (w.fa (pcA xs (i-1))).lo+(w.fb (pcA xs i)).lo) j q∧sum2 (w.lenF xs j q)=sumF (fun i=>(w.b (pcA xs i).b.toNat).hi+if i=0 then 0 else (w.fa (pcA xs (i-1))).hi+(w.fb (pcA xs i)).hi) j q
 | 0,j=>⟨rfl,rfl⟩
 | q+1,j=>by
  obtain ⟨h1,h2⟩:=lenF_sum w xs q (j+1)
  obtain ⟨h3,h4⟩:=sum_app (w.lenAt xs j) (w.lenF xs (j+1) q)
  have e:w.lenF xs j (q+1)=w.lenAt xs j++w.lenF xs (j+1) q:=rfl
  rw [e,h3,h4,h1,h2]
  simp only [sumF,Wg.lenAt]
  by_cases h:j=0
  ·simp [h,sum1,sum2]
  ·simp [h,sum1,sum2]
theorem len_eq (w:Wg) {xs:List Pc} (h0:0<xs.length):foldF (w.lnA xs) (w.flm xs) 0 xs.length=(sum1 (w.lenF xs 0 xs.length),sum2 (w.lenF xs 0 xs.length)):=by
 obtain ⟨h1,h2⟩:=lenF_sum w xs xs.length 0
 obtain ⟨n,hn⟩:∃ n,xs.length=n+1:=⟨xs.length-1,by omega⟩
 have hf:w.flm xs=(0+sumF (fun i=>(w.fa (pcA xs i)).lo+(w.fb (pcA xs (i+1))).lo) 0 (xs.length-1),0+sumF (fun i=>(w.fa (pcA xs i)).hi+(w.fb (pcA xs (i+1))).hi) 0 (xs.length-1)):=foldF_pair _ _ _ _ _
 have hl:=foldF_pair (fun i=>(w.b (pcA xs i).b.toNat).lo) (fun i=>(w.b (pcA xs i).b.toNat).hi) xs.length 0 (w.flm xs)
 have key:∀ (c f:Nat→Int),sumF (fun i=>c i+if i=0 then 0 else f (i-1)) 0 (n+1)=sumF c 0 (n+1)+sumF f 0 n:=by
  intro c f
  rw [sumF_add c (fun i=>if i=0 then 0 else f (i-1))]
  have e:sumF (fun i=>if i=0 then 0 else f (i-1)) 0 (n+1)=sumF f 0 n:=by
   simp only [sumF,if_true,Int.zero_add]
   rw [← sumF_shift f n 0]
   exact sumF_con _ _ (fun i h1 h2=>by rw [if_neg (by omega)])
  rw [e]
 have k1:=key (fun i=>(w.b (pcA xs i).b.toNat).lo) (fun i=>(w.fa (pcA xs i)).lo+(w.fb (pcA xs (i+1))).lo)
 have k2:=key (fun i=>(w.b (pcA xs i).b.toNat).hi) (fun i=>(w.fa (pcA xs i)).hi+(w.fb (pcA xs (i+1))).hi)
 have c1:∀ (f:Nat→Int) (g:Nat→Nat→Int),(∀ i,i≠0→g (i-1) i=g (i-1) (i-1+1)):=fun f g i hi=>by rw [show i-1+1=i by omega]
 have m1:sumF (fun i=>(w.b (pcA xs i).b.toNat).lo+if i=0 then 0 else (w.fa (pcA xs (i-1))).lo+(w.fb (pcA xs i)).lo) 0 (n+1)=sumF (fun i=>(w.b (pcA xs i).b.toNat).lo+if i=0 then 0 else (w.fa (pcA xs (i-1))).lo+(w.fb (pcA xs (i-1+1))).lo) 0 (n+1):=sumF_con _ _ (fun i _ _=>by
  by_cases hi:i=0
  ·simp [hi]
  ·simp only [if_neg hi];rw [show i-1+1=i by omega])
 have m2:sumF (fun i=>(w.b (pcA xs i).b.toNat).hi+if i=0 then 0 else (w.fa (pcA xs (i-1))).hi+(w.fb (pcA xs i)).hi) 0 (n+1)=sumF (fun i=>(w.b (pcA xs i).b.toNat).hi+if i=0 then 0 else (w.fa (pcA xs (i-1))).hi+(w.fb (pcA xs (i-1+1))).hi) 0 (n+1):=sumF_con _ _ (fun i _ _=>by
  by_cases hi:i=0
  ·simp [hi]
  ·simp only [if_neg hi];rw [show i-1+1=i by omega])
 rw [h1,h2]
 have e:foldF (w.lnA xs) (w.flm xs) 0 xs.length=foldF (fun (a:Int×Int) i=>(a.1+(w.b (pcA xs i).b.toNat).lo,a.2+(w.b (pcA xs i).b.toNat).hi)) (w.flm xs) 0 xs.length:=rfl
 rw [e,hl,hf,hn,m1,m2,k1,k2]
 simp only [Nat.add_sub_cancel]
 ext<;>simp only<;>omega
theorem nodup_len {α:Type} [DecidableEq α]:∀ {a b:List α},a.Nodup→a ⊆ b→a.length≤b.length
 | [],b,_,_=>Nat.zero_le _
 | x::r,b,h,hs=>by
  rw [List.nodup_cons] at h
  have hx:x∈b:=hs (List.mem_cons_self ..)
  have h1:=nodup_len (a:=r) (b:=b.erase x) h.2 (fun y hy=>(List.mem_erase_of_ne (fun e=>h.1 (by rw [← e];exact hy))).2 (hs (List.mem_cons_of_mem _ hy)))
  rw [List.length_erase_of_mem hx] at h1
  have:=List.length_pos_of_mem hx
  simp only [List.length_cons]
  omega
theorem range_nodup (n:Nat):((List.range n).map fun (i:Nat)=>(i:Int)).Nodup:=by
 rw [List.Nodup,List.pairwise_map]
 exact (List.nodup_range (n:=n)).imp (fun h e=>h (by omega))
theorem full_bit {n i:Nat}:(2^n-1).testBit i=true↔i<n:=by rw [Nat.testBit_two_pow_sub_one,decide_eq_true_eq]
theorem stk_whole {w:Wg} {l:List Pc} (h:w.stk l=true):l.length=w.bs.length↔w.setOf (2^w.bs.length-1) l:=by
 obtain ⟨h0,h1,h2⟩:=stk_iff.1 h
 constructor
 ·intro hl i
  rw [full_bit]
  constructor
  ·intro hi
   by_cases hm:(i:Int)∈l.map Pc.b
   ·obtain ⟨x,hx,e⟩:=List.mem_map.1 hm
    exact ⟨x,hx,e⟩
   ·have:=nodup_len (a:=(i:Int)::l.map Pc.b) (b:=(List.range w.bs.length).map fun (i:Nat)=>(i:Int)) (List.nodup_cons.2 ⟨hm,h2⟩) (fun y hy=>by
     rcases List.mem_cons.1 hy with rfl | hy
     ·exact List.mem_map.2 ⟨i,List.mem_range.2 hi,rfl⟩
     ·obtain ⟨x,hx,rfl⟩:=List.mem_map.1 hy
      have hp:=h1 x hx
      have p1:=hp.1
      have p2:=hp.2.1
      simp only [Wg.n] at p2
      exact List.mem_map.2 ⟨x.b.toNat,List.mem_range.2 (by omega),by omega⟩)
    simp only [List.length_cons,List.length_map,List.length_range] at this
    omega
  ·rintro ⟨x,hx,e⟩
   have hp:=(h1 x hx).2.1
   simp only [Wg.n] at hp
   omega
 ·intro hs
  have h3:=nodup_len (a:=(List.range w.bs.length).map fun (i:Nat)=>(i:Int)) (b:=l.map Pc.b) (range_nodup _) (fun y hy=>by
   obtain ⟨i,hi,rfl⟩:=List.mem_map.1 hy
   obtain ⟨x,hx,e⟩:=(hs i).1 (full_bit.2 (List.mem_range.1 hi))
   exact List.mem_map.2 ⟨x,hx,e⟩)
  simp only [List.length_map,List.length_range] at h3
  have h4:=nodup_len (a:=l.map Pc.b) (b:=(List.range w.bs.length).map fun (i:Nat)=>(i:Int)) h2 (fun y hy=>by
   obtain ⟨x,hx,rfl⟩:=List.mem_map.1 hy
   have hp:=h1 x hx
   have p1:=hp.1
   have p2:=hp.2.1
   simp only [Wg.n] at p2
   exact List.mem_map.2 ⟨x.b.toNat,List.mem_range.2 (by omega),by omega⟩)
  simp only [List.length_map,List.length_range] at h4
  omega
theorem jtz {w:Wg} {b:Bool} {x y:Pc}:w.jt b x y=0↔w.ap x.b y.b=false∧(w.fa x).st≤lvl b∧(w.fb y).st≤lvl b:=by
 simp only [Wg.jt]
 cases w.ap x.b y.b
 ·by_cases h1:(w.fa x).st≤lvl b
  ·by_cases h2:(w.fb y).st≤lvl b<;>simp [h1,h2]
  ·simp [h1]
 ·simp
theorem flm_sum (w:Wg) (xs:List Pc):w.flm xs=(sumF (fun i=>(w.fa (pcA xs i)).lo+(w.fb (pcA xs (i+1))).lo) 0 (xs.length-1),sumF (fun i=>(w.fa (pcA xs i)).hi+(w.fb (pcA xs (i+1))).hi) 0 (xs.length-1)):=by
 have:w.flm xs=(0+sumF (fun i=>(w.fa (pcA xs i)).lo+(w.fb (pcA xs (i+1))).lo) 0 (xs.length-1),0+sumF (fun i=>(w.fa (pcA xs i)).hi+(w.fb (pcA xs (i+1))).hi) 0 (xs.length-1)):=foldF_pair _ _ _ _ _
 rw [this,Int.zero_add,Int.zero_add]
theorem len_sum (w:Wg) (xs:List Pc):foldF (w.lnA xs) (w.flm xs) 0 xs.length=((w.flm xs).1+sumF (fun i=>(w.b (pcA xs i).b.toNat).lo) 0 xs.length,(w.flm xs).2+sumF (fun i=>(w.b (pcA xs i).b.toNat).hi) 0 xs.length) :=
 foldF_pair _ _ _ _ _
theorem holds_is {w:Wg} (hv:w.valid=true) {l:List Pc} (hs:w.stk l=true):w.holds l=(if w.hld false l then 2 else if w.hld true l then 1 else 0,0):=by
 simp only [Wg.holds,hv,hs,if_true]
 rw [brk_hld false l,brk_hld true l]
 by_cases h1:(w.brk false l).2=0
 ·simp [h1]
 ·by_cases h2:(w.brk true l).2=0<;>simp [h1,h2]
theorem best_is {w:Wg} (ho:w.Ok) (h:w.can false=true):w.best=((w.tal false w.full).2,some (w.bestL w.bs.length w.full),0)∧w.stk (w.bestL w.bs.length w.full)=true∧w.hld false (w.bestL w.bs.length w.full)=true∧(w.bestL w.bs.length w.full).length=w.bs.length∧(w.flm (w.bestL w.bs.length w.full)).2=(w.tal false w.full).2:=by
 have hv:=(w.valid_iff).2 ho
 have ht:0<(w.tal false w.full).1:=by simpa [Wg.can] using h
 have hb:w.best=((w.tal false w.full).2,some (w.bestL w.bs.length w.full),0):=by simp only [Wg.best,hv,if_true,if_pos ht]
 obtain ⟨g1,g2⟩:=bestL_goes ho w.bs.length w.full (full_ok w) (cnt_full ho.n.2) ht
 rcases (goes_set ho (full_lt w) _).1 g1 with ⟨_,h0⟩ | ⟨k1,k2,k3⟩
 ·exact absurd h0 (full_pos ho)
 ·exact ⟨hb,k1,k2,(stk_whole k1).2 k3,by rw [← g2];exact flm_fm w _ _ _⟩
def Wg.cs (w:Wg):List (Bool×Bool):=w.bs.map fun b=>(b.f0.st != 0,b.f1.st != 0)
def Wg.rl (w:Wg):List (Int×Int):=w.bs.map fun b=>(b.f0.lo,b.f1.lo)
def Wg.rh (w:Wg):List (Int×Int):=w.bs.map fun b=>(b.f0.hi,b.f1.hi)
def Wg.tw (w:Wg):Tru:=⟨w.cs,w.rl,w.bs.map fun _=>0⟩
def Wg.tl (w:Wg):Tru:=⟨w.cs,w.rl,w.bs.map Bk.lo⟩
def Wg.th (w:Wg):Tru:=⟨w.cs,w.rh,w.bs.map Bk.hi⟩
def flip (x:Pc):Pc:=⟨x.b,1-x.u⟩
def back (l:List Pc):List Pc:=l.reverse.map flip
theorem length_is {w:Wg} (hv:w.valid=true) {l:List Pc} (hs:w.stk l=true):w.length l=(((w.flm l).1+sumF (fun i=>(w.b (pcA l i).b.toNat).lo) 0 l.length,(w.flm l).2+sumF (fun i=>(w.b (pcA l i).b.toNat).hi) 0 l.length),0):=by
 simp only [Wg.length,hv,hs,if_true]
 rw [← len_sum,len_eq w (stk_pok hs).2]
def selL (s n:Nat):List Nat:=(List.range n).filter s.testBit
def rk (s i:Nat):Nat:=(selL s i).length
theorem sel_succ (s n:Nat):selL s (n+1)=selL s n++if s.testBit n then [n] else []:=by
 simp only [selL,List.range_succ,List.filter_append,List.filter_cons,List.filter_nil]
theorem rk_at {s:Nat}:∀ {n i:Nat},i<n→s.testBit i=true→rk s i<(selL s n).length∧(selL s n).getD (rk s i) 0=i
 | 0,i,h,_=>by omega
 | n+1,i,h,hb=>by
  rw [sel_succ]
  by_cases e:i=n
  ·subst e
   rw [hb,if_pos rfl]
   simp only [List.length_append,List.length_singleton,rk]
   exact ⟨by omega,by simp⟩
  ·obtain ⟨h1,h2⟩:=rk_at (n:=n) (by omega) hb
   refine ⟨by rw [List.length_append];omega,?_⟩
   rw [List.getD_eq_getElem?_getD,List.getElem?_append_left h1,← List.getD_eq_getElem?_getD]
   exact h2
theorem sel_at {s:Nat}:∀ {n k:Nat},k<(selL s n).length→(selL s n).getD k 0<n∧s.testBit ((selL s n).getD k 0)=true∧rk s ((selL s n).getD k 0)=k
 | 0,k,h=>by simp [selL] at h
 | n+1,k,h=>by
  rw [sel_succ] at h ⊢
  by_cases hk:k<(selL s n).length
  ·obtain ⟨h1,h2,h3⟩:=sel_at (n:=n) hk
   have e:(selL s n++if s.testBit n then [n] else []).getD k 0=(selL s n).getD k 0:=by
    rw [List.getD_eq_getElem?_getD,List.getElem?_append_left hk,← List.getD_eq_getElem?_getD]
   rw [e]
   exact ⟨by omega,h2,h3⟩
  ·cases hb:s.testBit n
   ·rw [hb] at h;simp at h;omega
   ·rw [hb,if_pos rfl] at h
    rw [if_pos rfl]
    simp only [List.length_append,List.length_singleton] at h
    have e:k=(selL s n).length:=by omega
    subst e
    have:(selL s n++[n]).getD (selL s n).length 0=n:=by simp
    rw [this]
    exact ⟨by omega,hb,rfl⟩
theorem rk_inj {s i j:Nat} (hi:s.testBit i=true) (hj:s.testBit j=true) (h:rk s i=rk s j):i=j:=by
 have a:=(rk_at (n:=max i j+1) (by omega) hi).2
 have b:=(rk_at (n:=max i j+1) (by omega) hj).2
 rw [h] at a
 exact a.symm.trans b
theorem sel_le (s n:Nat):(selL s n).length≤n:=by
 have:=List.length_filter_le s.testBit (List.range n)
 rw [List.length_range] at this
 exact this
def inS (s:Nat) (a:Ap):Bool:=s.testBit a.a.toNat&&s.testBit a.b.toNat
def apR (s:Nat) (a:Ap):Ap:=⟨rk s a.a.toNat,rk s a.b.toNat⟩
def Wg.only (w:Wg) (s:Nat):Wg:=⟨(selL s w.bs.length).map w.b,(w.ps.filter (inS s)).map (apR s)⟩
def omM (s:Nat):Nat→List (AV×AV)
 | 0=>[]
 | j+1=>if s.testBit j then putM (I j) (I (rk s j)) (omM s j) else omM s j
theorem I_same (a b:Int):(I a).same (I b)=(a==b):=by simp [AV.same]
theorem omM_look (s x:Nat):∀ j,zAk (I x) (omM s j)=if x<j∧s.testBit x=true then some (I (rk s x)) else none
 | 0=>by rw [if_neg (by omega)];rfl
 | j+1=>by
  simp only [omM]
  cases hb:s.testBit j
  ·simp only [Bool.false_eq_true,if_false]
   rw [omM_look s x j]
   by_cases e:x=j
   ·subst e;rw [if_neg (by omega),if_neg (by rw [hb];simp)]
   ·by_cases h:x<j∧s.testBit x=true
    ·rw [if_pos h,if_pos ⟨by omega,h.2⟩]
    ·rw [if_neg h,if_neg (fun g=>h ⟨by omega,g.2⟩)]
  ·simp only [if_true]
   rw [lookup_put,I_same,omM_look s x j]
   by_cases e:x=j
   ·subst e;rw [if_pos (by simp),if_pos ⟨by omega,hb⟩]
   ·rw [if_neg (by simpa using (by omega:¬ (x:Int)=(j:Int)))]
    by_cases h:x<j∧s.testBit x=true
    ·rw [if_pos h,if_pos ⟨by omega,h.2⟩]
    ·rw [if_neg h,if_neg (fun g=>h ⟨by omega,g.2⟩)]
theorem putM_lt {N:Nat} {k v:AV} (hk:k.lt N=true) (hv:v.lt N=true):∀ {es:List (AV×AV)},zB7 N es=true→zB7 N (putM k v es)=true
 | [],_=>by simp [putM,zB7,hk,hv]
 | (a,b)::r,h=>by
  simp only [zB7,Bool.and_eq_true] at h
  simp only [putM]
  split
  ·simp [zB7,hk,hv,h.2.2]
  ·simp only [zB7,Bool.and_eq_true];exact ⟨h.1,h.2.1,putM_lt hk hv h.2.2⟩
theorem omM_lt (s N:Nat):∀ j,zB7 N (omM s j)=true
 | 0=>rfl
 | j+1=>by
  simp only [omM]
  split
  ·exact putM_lt rfl rfl (omM_lt s N j)
  ·exact omM_lt s N j
theorem only_n (w:Wg) (s:Nat):(w.only s).bs.length=(selL s w.bs.length).length:=List.length_map _
theorem only_b (w:Wg) (s:Nat) {k:Nat} (hk:k<(selL s w.bs.length).length):(w.only s).b k=w.b ((selL s w.bs.length).getD k 0):=by
 simp [Wg.only,Wg.b,hk]
theorem sel_pos {s n:Nat} (hs:s<2^n) (h0:s≠0):0<(selL s n).length:=by
 rcases Nat.eq_zero_or_pos (selL s n).length with h | h
 ·exfalso
  apply h0
  refine Nat.eq_of_testBit_eq fun i=>?_
  rw [Nat.zero_testBit]
  cases hb:s.testBit i
  ·rfl
  ·by_cases hi:i<n
   ·have:=(rk_at hi hb).1;omega
   ·have:s.testBit i=false:=Nat.testBit_lt_two_pow (Nat.lt_of_lt_of_le hs (Nat.pow_le_pow_right (by omega) (by omega)))
    rw [this] at hb;cases hb
 ·exact h
theorem only_ok {w:Wg} (ho:w.Ok) {s:Nat} (hs:s<2^w.bs.length) (h0:s≠0):(w.only s).Ok:=by
 have h1:=sel_pos hs h0
 have h2:=sel_le s w.bs.length
 have h5:=ho.n.2
 simp only [Wg.n] at h5
 have hb:∀ i,i<(w.only s).n→∃ k,k<w.bs.length∧(w.only s).b i=w.b k:=fun i hi=>by
  simp only [Wg.n,only_n] at hi
  exact ⟨_,(sel_at hi).1,only_b w s hi⟩
 refine ⟨by simp only [Wg.n,only_n];omega,?_,fun i hi=>?_,fun i hi=>?_,fun i hi=>?_,fun i hi=>?_⟩
 ·have:=List.length_filter_le (inS s) w.ps
  simp only [Wg.only,List.length_map]
  have:=ho.np
  omega
 ·obtain ⟨k,hk,e⟩:=hb i hi
  rw [e];exact ho.sp k hk
 ·obtain ⟨k,hk,e⟩:=hb i hi
  rw [e];exact ho.f0 k hk
 ·obtain ⟨k,hk,e⟩:=hb i hi
  rw [e];exact ho.f1 k hk
 ·have hm:(w.only s).a i∈(w.only s).ps:=by
   simp only [Wg.a,List.getD_eq_getElem?_getD,List.getElem?_eq_getElem hi,Option.getD_some]
   exact List.getElem_mem hi
  obtain ⟨a,ha,e⟩:=List.mem_map.1 hm
  obtain ⟨ha1,ha2⟩:=List.mem_filter.1 ha
  simp only [inS,Bool.and_eq_true] at ha2
  obtain ⟨j,hj,rfl⟩:=List.mem_iff_getElem.1 ha1
  have hap:=ho.ap j hj
  have ej:w.a j=w.ps[j]:=by simp [hj]
  rw [ej] at hap
  rw [← e]
  simp only [Wg.n] at hap
  obtain ⟨r1,_⟩:=rk_at (n:=w.bs.length) (i:=w.ps[j].a.toNat) (by omega) ha2.1
  obtain ⟨r2,_⟩:=rk_at (n:=w.bs.length) (i:=w.ps[j].b.toNat) (by omega) ha2.2
  simp only [apR,Wg.n,only_n]
  refine ⟨by omega,by omega,by omega,by omega,fun e=>?_⟩
  have:=rk_inj ha2.1 ha2.2 (by omega)
  omega
def pR (s:Nat) (x:Pc):Pc:=⟨rk s x.b.toNat,x.u⟩
def inP (s:Nat) (x:Pc):Prop:=s.testBit x.b.toNat=true
def pB (s n:Nat) (x:Pc):Pc:=⟨(selL s n).getD x.b.toNat 0,x.u⟩
theorem law_face (a b c:Int) (H:Heap):zA9 cfg0 zA2 false 60 [I a,I b,I c] H none=some ⟨.ret (.agg [I a,I b,I c]),H,none⟩:=by
 have h1:=fun G:Heap=>law_span a b G
 refine (zA1 fn60 rfl (by simp [Tryz.f60])).trans ?_
 simp -implicitDefEqProofs (maxSteps:=1000000) (disch:=first|rfl|omega|assumption) only [go_sem,ltT,ltF,leT,h1]
 done
def smpB:List Bk:=[⟨10,10,⟨1,1,0⟩,⟨0,2,2⟩⟩,⟨20,21,⟨1,1,0⟩,⟨2,2,0⟩⟩,⟨5,5,⟨0,0,1⟩,⟨3,3,0⟩⟩]
theorem law_wring5 {b:Bool} {l:List AV} (hl:ltL 0 l=true) (H:Heap):zA9 cfg0 zA2 false 22 [.sl b l] H none=some ⟨.ret (.agg [.sl true (smpB.map Bk.av),.sl b l]),H,none⟩:=by
 have h1:=fun (a b:Int) (G:Heap)=>law_span a b G
 have h2:=fun (a b c:Int) (G:Heap)=>law_face a b c G
 simp only [smpB,List.map_cons,List.map_nil,Bk.av]
 refine (zA1 fn22 rfl (by simp [Tryz.f22])).trans ?_
 simp -implicitDefEqProofs (maxSteps:=1000000) (disch:=first|rfl|omega|assumption) only [go_sem,ltT,ltF,leT,h1,h2,hl]
 done
def smp:Wg:=⟨smpB,[]⟩
def smpX:Wg:=⟨smpB,[⟨0,1⟩]⟩
deriving instance DecidableEq for Pc
theorem v_best:smp.best=(7,some [⟨0,0⟩,⟨1,0⟩,⟨2,0⟩],0):=by decide +kernel
theorem v_polish:smpX.polish=(1,16,0):=by decide +kernel
def neP (x y:Pc):Bool:=!(x.b==y.b&&x.u==y.u)
def sameP (xs ys:List Pc):Bool:=decide (xs.length=ys.length)&&!anyF (fun i=>neP (pcA xs i) (pcA ys i)) 0 xs.length
theorem same_loop {v1 v2:AV} {xs ys:List Pc} (h1:SlOk H 2 v1 (xs.map Pc.av)) (h2:SlOk H 2 v2 (ys.map Pc.av)) (hx:xs.length≤1000) (hy:ys.length=xs.length) (r:Bool) :
  ∀ (q j:Nat),j+q=xs.length→(!anyF (fun i=>neP (pcA xs i) (pcA ys i)) j q)=r→∀ E:Env,E.get 0=v1→E.get 1=v2→E.get 5=I j →
  Option.map (zAd H.length) (zAe cfg0 zA2 ⟨23,none,false,H.length⟩ (zA5 Tryz.f23 4) ⟨E,[],H,none⟩)=some ⟨.ret (.bool r),H,none⟩:=by
 intro q
 obtain ⟨a1,a2,a3,a4,a5⟩:=h1.fF (d:=pc0)
 obtain ⟨b1,b2,b3,b4,b5⟩:=h2.fF (d:=pc0)
 have n1:=h1.len
 rw [List.length_map] at n1
 rw [hy] at b1 b2 b3 b4
 induction q with
 | zero =>
  intro j hj hr E g0 g1 g5
  have hk':¬ (j:Int)<((xs.length:Nat):Int):=by omega
  simp only [anyF,Bool.not_false] at hr
  subst hr
  simp only [zA6,zA4,zA5,zA7,zA3,↓reduceIte,Option.some.injEq,Nat.reduceEqDiff,reduceCtorEq,Tryz.f23]
  rw [zA0]
  simp -implicitDefEqProofs (maxSteps:=1000000) (disch:=first|rfl|omega|assumption) only [go_sem,g0,g1,g5,ltT,ltF,leT,hk',n1]
  done
 | succ q ih =>
  intro j hj hr E g0 g1 g5
  have hk':(j:Int)<((xs.length:Nat):Int):=by omega
  have hk2:j<xs.length:=by omega
  have hu:anyF (fun i=>neP (pcA xs i) (pcA ys i)) j (q+1)=(neP (pcA xs j) (pcA ys j)||anyF (fun i=>neP (pcA xs i) (pcA ys i)) (j+1) q):=rfl
  rw [hu] at hr
  obtain ⟨⟨xb,xu⟩,hxe⟩:∃ x,xs.getD j pc0=x:=⟨_,rfl⟩
  obtain ⟨⟨yb,yu⟩,hye⟩:∃ x,ys.getD j pc0=x:=⟨_,rfl⟩
  have e:neP (pcA xs j) (pcA ys j)=!(xb==yb&&xu==yu):=by
   show neP (xs.getD j pc0) (ys.getD j pc0)=_
   rw [hxe,hye];rfl
  rw [e] at hr
  have hrd:∀ (a b:Int) (o:Nat) (ty:Ty),zAf (Pc.av ⟨a,b⟩).cells o ty=zAf [I a,I b] o ty:=fun _ _ _ _=>rfl
  have hsm:zBb [I xb,I xu] [I yb,I yu]=(xb==yb&&xu==yu):=by simp [zBb,AV.same]
  cases c1:(xb==yb)
  ·rw [c1] at hr
   simp only [Bool.false_and,Bool.not_false,Bool.true_or,Bool.not_true] at hr
   subst hr
   simp only [zA6,zA4,zA5,zA7,zA3,↓reduceIte,Option.some.injEq,Nat.reduceEqDiff,reduceCtorEq,Tryz.f23]
   rw [zA0]
   simp -implicitDefEqProofs (maxSteps:=1000000) (disch:=first|rfl|omega|assumption) only [go_sem,g0,g1,g5,ltT,ltF,leT,hk',n1]
   rw [zAa];rotate_left;kernel_rfl
   simp -implicitDefEqProofs (maxSteps:=1000000) (disch:=first|rfl|omega|assumption) only [go_sem,g0,g1,g5,ltT,ltF,leT,hk',n1,a2,a4,b2,b4,hxe,hye,hrd,c1,hsm]
   done
  ·cases c2:(xu==yu)
   ·rw [c1,c2] at hr
    simp only [Bool.and_false,Bool.not_false,Bool.true_or,Bool.not_true] at hr
    subst hr
    simp only [zA6,zA4,zA5,zA7,zA3,↓reduceIte,Option.some.injEq,Nat.reduceEqDiff,reduceCtorEq,Tryz.f23]
    rw [zA0]
    simp -implicitDefEqProofs (maxSteps:=1000000) (disch:=first|rfl|omega|assumption) only [go_sem,g0,g1,g5,ltT,ltF,leT,hk',n1]
    rw [zAa];rotate_left;kernel_rfl
    simp -implicitDefEqProofs (maxSteps:=1000000) (disch:=first|rfl|omega|assumption) only [go_sem,g0,g1,g5,ltT,ltF,leT,hk',n1,a2,a4,b2,b4,hxe,hye,hrd,c1,c2,hsm]
    done
   ·rw [c1,c2] at hr
    simp only [Bool.and_self,Bool.not_true,Bool.false_or] at hr
    simp only [zA6,zA4,zA5,zA7,zA3,↓reduceIte,Option.some.injEq,Nat.reduceEqDiff,reduceCtorEq,Tryz.f23]
    rw [zA0]
    simp -implicitDefEqProofs (maxSteps:=1000000) (disch:=first|rfl|omega|assumption) only [go_sem,g0,g1,g5,ltT,ltF,leT,hk',n1]
    rw [zAa];rotate_left;kernel_rfl
    simp -implicitDefEqProofs (maxSteps:=1000000) (disch:=first|rfl|omega|assumption) only [go_sem,g0,g1,g5,ltT,ltF,leT,hk',n1,a2,a4,b2,b4,hxe,hye,hrd,c1,c2,hsm]
    exact ih (j+1) (by omega) hr _ (by exact g0) (by exact g1) (by rfl)
theorem ref_Same {v1 v2:AV} {xs ys:List Pc} (h1:SlOk H 2 v1 (xs.map Pc.av)) (h2:SlOk H 2 v2 (ys.map Pc.av)) (hx:xs.length≤1000) (hy:ys.length≤1000):zA9 cfg0 zA2 false 23 [v1,v2] H none=some ⟨.ret (.bool (sameP xs ys)),H,none⟩:=by
 have n1:=h1.len
 have n2:=h2.len
 rw [List.length_map] at n1 n2
 simp only [sameP]
 by_cases h:xs.length=ys.length
 ·rw [decide_eq_true h,Bool.true_and]
  have hb:(((xs.length:Int)) != (ys.length:Int))=false:=by simp [h]
  have h3:=same_loop h1 h2 hx h.symm _ xs.length 0 (by omega) rfl
  refine (zA1 fn23 rfl (by simp [Tryz.f23])).trans ?_
  simp -implicitDefEqProofs (maxSteps:=1000000) (disch:=first|rfl|omega|assumption) only [go_sem,ltT,ltF,leT,n1,n2,hb]
  exact h3 _ (by rfl) (by rfl) (by rfl)
 ·rw [decide_eq_false h,Bool.false_and]
  have hb:(((xs.length:Int)) != (ys.length:Int))=true:=by simp;omega
  refine (zA1 fn23 rfl (by simp [Tryz.f23])).trans ?_
  simp -implicitDefEqProofs (maxSteps:=1000000) (disch:=first|rfl|omega|assumption) only [go_sem,ltT,ltF,leT,n1,n2,hb]
  done
theorem smp_at (H:Heap):WgAt H smp (.sl true (smpB.map Bk.av)) (.sl true []):=⟨⟨rfl,fun x hx=>by obtain ⟨i,_,rfl⟩:=List.mem_map.1 hx;rfl⟩,⟨rfl,fun x hx=>by cases hx⟩⟩
theorem smpX_at (H:Heap):WgAt H smpX (.sl true (smpB.map Bk.av)) (.sl true [.agg [I 0,I 1]]):=⟨⟨rfl,fun x hx=>by obtain ⟨i,_,rfl⟩:=List.mem_map.1 hx;rfl⟩,⟨rfl,fun x hx=>by
 obtain ⟨i,_,rfl⟩:=List.mem_map.1 hx;rfl⟩⟩
def pl5:List Pc:=[⟨0,0⟩,⟨1,0⟩,⟨2,0⟩]
theorem law_awake5 (H:Heap):zA9 cfg0 zA2 false 5 [] H none=some ⟨.ret (.bool true),H,none⟩:=by
 have hl1:smp.bs.length≤1000∧smp.ps.length≤1000:=by decide
 have hl2:smpX.bs.length≤1000∧smpX.ps.length≤1000:=by decide
 have h1:=fun G:Heap=>wr_Best (smp_at G) hl1
 have h2:=fun G:Heap=>wr_Polish (smpX_at G) hl2
 rw [v_best] at h1
 rw [v_polish] at h2
 have h3:=fun G:Heap=>law_wring5 (b:=true) (l:=[]) rfl G
 have h4:=fun G:Heap=>law_wring5 (b:=true) (l:=[.agg [I 0,I 1]]) rfl G
 have hs:=fun G:Heap=>ref_Same (H:=G) (v1:=plA (some pl5)) (v2:=.sl true (pl5.map Pc.av)) (xs:=pl5) (ys:=pl5) ⟨rfl,fun x hx=>by obtain ⟨i,_,rfl⟩:=List.mem_map.1 hx;rfl⟩ ⟨rfl,fun x hx=>by obtain ⟨i,_,rfl⟩:=List.mem_map.1 hx;rfl⟩ (by decide) (by decide)
 have hsv:sameP pl5 pl5=true:=by decide +kernel
 rw [hsv] at hs
 simp only [pl5,plA,List.map_cons,List.map_nil,Pc.av] at h1 hs
 generalize AV.sl true (smpB.map Bk.av)=vb at h1 h2 h3 h4
 refine (zA1 fn5 rfl (by simp [Tryz.f5])).trans ?_
 simp -implicitDefEqProofs (maxSteps:=1000000) (disch:=first|rfl|omega|assumption) only [go_sem,ltT,ltF,leT,h1,h2,h3,h4,hs,law_awake4]
 done
end Go.Ab
