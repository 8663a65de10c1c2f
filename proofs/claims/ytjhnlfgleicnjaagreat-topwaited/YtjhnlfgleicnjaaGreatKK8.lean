/- TopWaited: the law. -/
import Derived.Test.YtjhnlfgleicnjaaGreatKK7
import Derived.Test.YtjhnlfgleicnjaaGreatKK0
import Derived.ProofKit
import Derived.OpenShut
namespace Go.Ab
open Go.Proofs
set_option linter.unusedSimpArgs false
set_option linter.unusedVariables false
set_option maxRecDepth 100000
set_option maxHeartbeats 2000000
variable {H:Heap}
theorem mod_bd {a b:Int} (ha:0≤a) (hb:0<b):0≤a.tmod b∧a.tmod b<b:=⟨Int.tmod_nonneg _ ha,Int.tmod_lt_of_pos _ hb⟩
theorem law_TopWaited {s:Stl} {vb vt vw:AV} (hvb:SlOk H 6 vb (s.bs.map Blk.av)) (hvt:SlOk H 4 vt (s.ts.map Tch.av)) {ws:List (Wm×AV)} (hvw:SlOk H 6 vw (ws.map fun x=>x.1.av x.2)) (hws:∀ x∈ws,SlOk H 4 x.2 (x.1.rs.map rdA)) (fl:Bool) {us:List Int} (hu:∀ i,i<us.length→0≤us.getD i 0∧us.getD i 0≤65535) (hul:us.length≤9223372036854775807) {much heat att:Int} (hm:0≤much∧much≤65535) (hh:0≤heat∧heat≤255) (hat:0≤att∧att≤255) :
  zA8 cfg0 zA0 false 3 [.agg [vb,I s.near,I s.last,vt],vw,.sl fl (us.map B16),.int .u16 much,.int .u8 heat,.int .u8 att] H none=some ⟨.ret (.bool true),H,none⟩:=by
 have hk':True:=trivial
 have l1:=hvb.len
 have l2:=hvt.len
 have l3:=hvw.len
 rw [List.length_map] at l1 l2 l3
 have hs1:=hvb.scal
 have hs2:=hvt.scal
 have hs3:=hvw.scal
 have t4:=fun N=>lt16 us N
 refine (zA1 fn3 rfl (by simp [Tryz.f3])).trans ?_
 by_cases cm:40<max (max (s.bs.length:Int) s.ts.length) ws.length
 ·skip
  simp -implicitDefEqProofs (maxSteps:=1000000) (disch:=first|rfl|omega|assumption) only [go_sem,ltT,ltF,leT,hs1,hs2,hs3,l1,l2,l3,cm,law_awake9]
  done
 ·have hst:=fun G:Heap=>rf_Settle (H:=H++G) (hvb.app G) (hvt.app G) (by omega)
  cases c1:s.okB
  ·rw [c1] at hst
   simp -implicitDefEqProofs (maxSteps:=1000000) (disch:=first|rfl|omega|assumption) only [go_sem,ltT,ltF,leT,hs1,hs2,hs3,l1,l2,l3,cm,hst,law_awake9]
   done
  rw [c1] at hst
  have ho:=okB_ok c1
  by_cases c2:(ws.length:Int)<s.bs.length
  ·skip
   simp -implicitDefEqProofs (maxSteps:=1000000) (disch:=first|rfl|omega|assumption) only [go_sem,ltT,ltF,leT,hs1,hs2,hs3,l1,l2,l3,cm,hst,c2,law_awake9]
   done
  by_cases c3:6≤(s.ts.length:Int)
  ·skip
   simp -implicitDefEqProofs (maxSteps:=1000000) (disch:=first|rfl|omega|assumption) only [go_sem,ltT,ltF,leT,hs1,hs2,hs3,l1,l2,l3,cm,hst,c2,c3,law_awake9]
   done
  have hdr:=fun G:Heap=>law_draws (.sl fl (us.map B16)) rfl ⟨_,_,rfl⟩ (H++G)
  have hAl:=fun G:Heap=>se_All ho (hvb.app G) (hvt.app G)
  have hne:=ho.near
  have hla:=ho.last
  simp -implicitDefEqProofs (maxSteps:=1000000) (disch:=first|rfl|omega|assumption) only [go_sem,ltT,ltF,leT,hs1,hs2,hs3,l1,l2,l3,cm,hst,c2,c3,hdr]
  have el:IntKind.i64.wrap (s.last+1)=s.last+1:=w64 (by omega) (by omega)
  have c4:¬ s.last+1=0:=by omega
  obtain ⟨b1,b2⟩:=mod_bd hm.1 (show (0:Int)<30001 by omega)
  obtain ⟨b3,b4⟩:=mod_bd hh.1 (show (0:Int)<31 by omega)
  obtain ⟨b5,b6⟩:=mod_bd hat.1 (show 0<s.last+1 by omega)
  have e96:IntKind.i64.wrap (heat.tmod 31-15)=heat.tmod 31-15:=w64 (by omega) (by omega)
  obtain ⟨mi,hmi⟩:∃ mi:Nat,att.tmod (s.last+1)=mi:=⟨_,(Int.toNat_of_nonneg b5).symm⟩
  have key:=fun (al er:Int) hall=>lw_l9 ho (by omega) hvb hvt hvw hws (by omega) fl hu hul al er hall (off:=much.tmod 30001) (by omega) (hea:=heat.tmod 31-15) (by omega) (mi:=mi) (by omega) s.bs.length 0 (by omega) [] 0 (by omega)
  cases hall:allR s 0 0 s.bs.length with
  | none =>
   simp only [hall] at hAl
   simp -implicitDefEqProofs (maxSteps:=1000000) (disch:=first|rfl|omega|assumption) only [go_sem,ltT,ltF,leT,hs1,hs2,hs3,hAl]
   rw [zAg];rotate_left;kernel_rfl
   simp -implicitDefEqProofs (maxSteps:=1000000) (disch:=first|rfl|omega|assumption) only [go_sem,ltT,ltF,leT,hs1,hs2,hs3,el,l1,c4,e96,hmi]
   exact key 0 4 (fun h=>by cases h) _ (by rfl) (by rfl) (by rfl) (by rfl) (by rfl) (by rfl) (by rfl) (by rfl) (by rfl) (by rfl) (by rfl)
  | some al =>
   simp only [hall] at hAl
   simp -implicitDefEqProofs (maxSteps:=1000000) (disch:=first|rfl|omega|assumption) only [go_sem,ltT,ltF,leT,hs1,hs2,hs3,hAl]
   rw [zAg];rotate_left;kernel_rfl
   simp -implicitDefEqProofs (maxSteps:=1000000) (disch:=first|rfl|omega|assumption) only [go_sem,ltT,ltF,leT,hs1,hs2,hs3,el,l1,c4,e96,hmi]
   exact key al 0 (fun _=>hall) _ (by rfl) (by rfl) (by rfl) (by rfl) (by rfl) (by rfl) (by rfl) (by rfl) (by rfl) (by rfl) (by rfl)
end Go.Ab
namespace Go.Ab
set_option linter.unusedSimpArgs false
set_option linter.unusedVariables false
set_option maxRecDepth 100000
open Go.Proofs Go.ChangeShapes Go.RowKit Go.WideShapes
def shSpan:Sh:=.cons (.int .i64) (.cons (.int .i64) .unit)
def shBlk:Sh:=.cons shSpan (.cons shSpan (.cons shSpan .unit))
def shTch:Sh:=.cons (.int .i64) (.cons (.int .i64) (.cons shSpan .unit))
def shStl:Sh:=.cons (.sl true shBlk) (.cons (.int .i64) (.cons (.int .i64) (.cons (.sl true shTch) .unit)))
theorem sh_span {l:List AV} (h:Shaped shSpan l):∃ a b,l=[I a,I b]:=by
 obtain ⟨_,_,rfl,⟨a,rfl,_⟩,_,_,rfl,⟨b,rfl,_⟩,rfl⟩:=h
 exact ⟨a,b,rfl⟩
theorem sh_blk {l:List AV} (h:Shaped shBlk l):∃ b:Blk,AV.agg l=b.av:=by
 obtain ⟨_,_,rfl,h1,_,_,rfl,h2,_,_,rfl,h3,rfl⟩:=h
 obtain ⟨a,b,rfl⟩:=sh_span h1
 obtain ⟨c,d,rfl⟩:=sh_span h2
 obtain ⟨e,f,rfl⟩:=sh_span h3
 exact ⟨⟨a,b,c,d,e,f⟩,rfl⟩
theorem sh_tch {l:List AV} (h:Shaped shTch l):∃ b:Tch,AV.agg l=b.av:=by
 obtain ⟨_,_,rfl,⟨a,rfl,_⟩,_,_,rfl,⟨b,rfl,_⟩,_,_,rfl,h3,rfl⟩:=h
 obtain ⟨e,f,rfl⟩:=sh_span h3
 exact ⟨⟨a,b,e,f⟩,rfl⟩
theorem sh_stl {l:List AV} (h:Shaped shStl l):∃ (s:Stl) (vb vt:AV),l=[vb,I s.near,I s.last,vt]∧SlOk [] 6 vb (s.bs.map Blk.av)∧SlOk [] 4 vt (s.ts.map Tch.av):=by
 obtain ⟨_,_,rfl,⟨f,es,rfl,h1⟩,_,_,rfl,⟨a,rfl,_⟩,_,_,rfl,⟨b,rfl,_⟩,_,_,rfl,⟨g,fs,rfl,h2⟩,rfl⟩:=h
 obtain ⟨bs,rfl⟩:=list_of (f:=Blk.av) (es:=es) fun x hx=>by
  obtain ⟨cs,hc,rfl⟩:=h1 x hx
  obtain ⟨b,hb⟩:=sh_blk hc
  exact ⟨b,by simp only [pack,if_true];exact hb⟩
 obtain ⟨ts,rfl⟩:=list_of (f:=Tch.av) (es:=fs) fun x hx=>by
  obtain ⟨cs,hc,rfl⟩:=h2 x hx
  obtain ⟨b,hb⟩:=sh_tch hc
  exact ⟨b,by simp only [pack,if_true];exact hb⟩
 exact ⟨⟨bs,a,b,ts⟩,.sl f (bs.map Blk.av),.sl g (ts.map Tch.av),rfl,⟨rfl,by simp only [List.mem_map];rintro _ ⟨x,_,rfl⟩;rfl⟩,⟨rfl,by simp only [List.mem_map];rintro _ ⟨x,_,rfl⟩;rfl⟩⟩
def shRd:Sh:=.cons shSpan (.cons shSpan .unit)
def shWm:Sh:=.cons (.int .i64) (.cons shSpan (.cons shSpan (.cons (.sl true shRd) .unit)))
theorem sh_rd {l:List AV} (h:Shaped shRd l):∃ r:Rd,AV.agg l=rdA r:=by
 obtain ⟨_,_,rfl,h1,_,_,rfl,h2,rfl⟩:=h
 obtain ⟨a,b,rfl⟩:=sh_span h1
 obtain ⟨c,d,rfl⟩:=sh_span h2
 exact ⟨⟨a,b,c,d⟩,rfl⟩
theorem sh_wm {l:List AV} (h:Shaped shWm l):∃ x:Wm×AV,SlOk [] 4 x.2 (x.1.rs.map rdA)∧AV.agg l=x.1.av x.2:=by
 obtain ⟨_,_,rfl,⟨m,rfl,_⟩,_,_,rfl,h1,_,_,rfl,h2,_,_,rfl,⟨f,es,rfl,h3⟩,rfl⟩:=h
 obtain ⟨a,b,rfl⟩:=sh_span h1
 obtain ⟨c,d,rfl⟩:=sh_span h2
 obtain ⟨rs,rfl⟩:=list_of (f:=rdA) (es:=es) fun x hx=>by
  obtain ⟨cs,hc,rfl⟩:=h3 x hx
  obtain ⟨r,hr⟩:=sh_rd hc
  exact ⟨r,by simp only [pack,if_true];exact hr⟩
 exact ⟨(⟨m,a,b,c,d,rs⟩,.sl f (rs.map rdA)),⟨rfl,fun x hx=>by obtain ⟨i,_,rfl⟩:=List.mem_map.1 hx;rfl⟩,rfl⟩
theorem sh25:shOf zA0 8 25=some shStl:=by kernel_rfl
theorem sh26:shOf zA0 8 26=some (.sl true shWm):=by kernel_rfl
theorem sh27:shOf zA0 8 27=some (.sl false (.int .u16)):=by kernel_rfl
theorem laid0:laidOutB zA0=true:=by kernel_rfl
theorem arg_stl {T:Type} {enc:TypeId×Value→T} {W:World} {r:Reach} {b0:Nat} {v:Value} {d:DataW T} {ps:List MemPlace} (hval:Value.okWide zA0 W r b0 25 v) (hd:DataW.Trod enc zA0 W 0 (fun _=>true) true 25 v d ps) :
  ∃ (s:Stl) (vb vt:AV),Rel (Cx.start W) (.agg [vb,I s.near,I s.last,vt]) v∧SlOk [] 6 vb (s.bs.map Blk.av)∧SlOk [] 4 vt (s.ts.map Tch.av):=by
 obtain ⟨avs,h1,h2⟩:=arg_agg Tryz.underlying25 sh25 hval hd
 obtain ⟨s,vb,vt,rfl,h3,h4⟩:=sh_stl h2
 exact ⟨s,vb,vt,h1,h3,h4⟩
theorem list_ofP {α:Type} {p:α→Prop} {f:α→AV}:∀ {es:List AV},(∀ x∈es,∃ a,p a∧x=f a)→∃ l:List α,es=l.map f∧∀ a∈l,p a
 | [],_=>⟨[],rfl,by simp⟩
 | x::r,h=>by
  obtain ⟨a,ha,rfl⟩:=h x (List.mem_cons_self ..)
  obtain ⟨l,rfl,hl⟩:=list_ofP fun y hy=>h y (List.mem_cons_of_mem _ hy)
  refine ⟨a::l,rfl,fun b hb=>?_⟩
  rcases List.mem_cons.1 hb with rfl | hb
  ·exact ha
  ·exact hl b hb
theorem len_of {T:Type} {enc:TypeId×Value→T} {W:World} {t e:TypeId} {v:Value} {d:DataW T} {ps:List MemPlace} {f:Bool} {es:List AV} (hu:zA0.underlying t=some (.slice e)) (h1:Rel (Cx.start W) (.sl f es) v) (hd:DataW.Trod enc zA0 W 0 (fun _=>true) true t v d ps):es.length≤9223372036854775807:=by
 rw [Rel] at h1
 obtain ⟨a,cap,rfl,⟨-,hc⟩,-,hy⟩:=h1
 obtain ⟨m,hm⟩:=hd
 cases m with
 | zero=>simp [DataW.trod] at hm
 | succ m =>
  cases a with
  | none =>
   rcases hy with hy | ⟨b,o,sz,ys,hy,-⟩
   ·have:=congrArg List.length hy
    simp at this
    simp [this]
   ·cases hy
  | some a =>
   simp only [DataW.trod,Value.cells,hu] at hm
   split at hm
   ·rename_i h
    have:maxLen=9223372036854775807:=rfl
    omega
   ·cases hm
theorem arg_u16s {T:Type} {enc:TypeId×Value→T} {W:World} {r:Reach} {b0:Nat} {v:Value} {d:DataW T} {ps:List MemPlace} (hval:Value.okWide zA0 W r b0 27 v) (hd:DataW.Trod enc zA0 W 0 (fun _=>true) true 27 v d ps) :
  ∃ (fl:Bool) (us:List Int),Rel (Cx.start W) (.sl fl (us.map B16)) v∧(us.length≤9223372036854775807∧∀ i,i<us.length→0≤us.getD i 0∧us.getD i 0≤65535):=by
 obtain ⟨f,es,h1,h2⟩:=arg_sl Tryz.underlying27 sh27 hval hd
 obtain ⟨ws,rfl,hw⟩:=list_ofP (p:=fun n:Int=>0≤n∧n≤65535) (f:=B16) (es:=es) fun x hx=>by
  obtain ⟨_,⟨n,rfl,hn⟩,rfl⟩:=h2 x hx
  exact ⟨n,bounds_u16 hn,rfl⟩
 have hl:=len_of Tryz.underlying27 h1 hd
 rw [List.length_map] at hl
 exact ⟨f,ws,h1,⟨hl,fun i hi=>hw _ (by simp [hi])⟩⟩
theorem arg_wms {T:Type} {enc:TypeId×Value→T} {W:World} {r:Reach} {b0:Nat} {v:Value} {d:DataW T} {ps:List MemPlace} (hval:Value.okWide zA0 W r b0 26 v) (hd:DataW.Trod enc zA0 W 0 (fun _=>true) true 26 v d ps) :
  ∃ (fw:Bool) (ws:List (Wm×AV)),Rel (Cx.start W) (.sl fw (ws.map fun x=>x.1.av x.2)) v∧(SlOk [] 6 (.sl fw (ws.map fun x=>x.1.av x.2)) (ws.map fun x=>x.1.av x.2)∧∀ x∈ws,SlOk [] 4 x.2 (x.1.rs.map rdA)):=by
 obtain ⟨f,es,h1,h2⟩:=arg_sl Tryz.underlying26 sh26 hval hd
 obtain ⟨ws,rfl,hw⟩:=list_ofP (p:=fun x:Wm×AV=>SlOk [] 4 x.2 (x.1.rs.map rdA)) (f:=fun x=>x.1.av x.2) (es:=es) fun x hx=>by
  obtain ⟨cs,hc,rfl⟩:=h2 x hx
  obtain ⟨y,hy,he⟩:=sh_wm hc
  exact ⟨y,hy,by simp only [pack,if_true];exact he⟩
 exact ⟨f,ws,h1,⟨rfl,fun x hx=>by obtain ⟨i,_,rfl⟩:=List.mem_map.1 hx;rfl⟩,hw⟩
section
variable {H:Type} {enc:TypeId×Value→H} {P:Program} {w:World} {base:Nat} {spare:Nat→Bool} {held:Bool}
theorem trodAll_six {t t' t'' t3 t4 t5:TypeId} {args:Array Value} {ds:List (DataW H)} {ps:List MemPlace} (h:DataW.TrodAll enc P w base spare held [t,t',t'',t3,t4,t5] args.toList ds ps) :
  ∃ v v' v'' v3 v4 v5 d d' d'' d3 d4 d5 p p' p'' p3 p4 p5,args=#[v,v',v'',v3,v4,v5]∧ds=[d,d',d'',d3,d4,d5]∧ps=p++p'++p''++p3++p4++p5∧DataW.Trod enc P w base spare held t v d p∧DataW.Trod enc P w base spare held t' v' d' p'∧DataW.Trod enc P w base spare held t'' v'' d'' p''∧DataW.Trod enc P w base spare held t3 v3 d3 p3∧DataW.Trod enc P w base spare held t4 v4 d4 p4∧DataW.Trod enc P w base spare held t5 v5 d5 p5:=by
 obtain ⟨a0,_,b0,_,m0,_,e,rfl,rfl,k0,h⟩:=trodAll_cons h
 obtain ⟨a1,_,b1,_,m1,_,rfl,rfl,rfl,k1,h⟩:=trodAll_cons h
 obtain ⟨a2,_,b2,_,m2,_,rfl,rfl,rfl,k2,h⟩:=trodAll_cons h
 obtain ⟨a3,_,b3,_,m3,_,rfl,rfl,rfl,k3,h⟩:=trodAll_cons h
 obtain ⟨a4,_,b4,_,m4,_,rfl,rfl,rfl,k4,h⟩:=trodAll_cons h
 obtain ⟨a5,_,b5,_,m5,_,rfl,rfl,rfl,k5,h⟩:=trodAll_cons h
 obtain ⟨rfl,rfl,rfl⟩:=trodAll_nil h
 exact ⟨a0,a1,a2,a3,a4,a5,b0,b1,b2,b3,b4,b5,m0,m1,m2,m3,m4,m5,by cases args;simp_all,rfl,by simp,k0,k1,k2,k3,k4,k5⟩
end
end Go.Ab
