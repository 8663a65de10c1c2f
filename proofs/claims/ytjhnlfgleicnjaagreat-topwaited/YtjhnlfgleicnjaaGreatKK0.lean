/- The tables of the evaluator are the program's: row by row. -/
import Derived.Test.YtjhnlfgleicnjaaGreatT0
import Derived.Test.YtjhnlfgleicnjaaGreatD9
import Derived.Test.YtjhnlfgleicnjaaGreatE2
import Derived.ProofKit
import Derived.Carry
import Derived.WideShapes
import Derived.OpenShut
namespace Go.Ab
set_option linter.unusedSimpArgs false
set_option linter.unusedVariables false
theorem getAt_mem {α:Type}:∀ {l:List (Nat×α)} {k:Nat} {y:α},zA5 l k=some y→(k,y)∈l
 | (i,x)::r,k,y,h=>by
  simp only [zA5] at h
  by_cases e:i=k
  ·simp only [e,if_pos,Option.some.injEq] at h;subst e;subst h;exact List.mem_cons_self ..
  ·rw [if_neg e] at h;exact List.mem_cons_of_mem _ (getAt_mem h)
theorem tyr1:tyOf zA0 1=zA5 tyL 1:=by kernel_rfl
theorem tyr2:tyOf zA0 2=zA5 tyL 2:=by kernel_rfl
theorem tyr3:tyOf zA0 3=zA5 tyL 3:=by kernel_rfl
theorem tyr4:tyOf zA0 4=zA5 tyL 4:=by kernel_rfl
theorem tyr5:tyOf zA0 5=zA5 tyL 5:=by kernel_rfl
theorem tyr6:tyOf zA0 6=zA5 tyL 6:=by kernel_rfl
theorem tyr8:tyOf zA0 8=zA5 tyL 8:=by kernel_rfl
theorem tyr12:tyOf zA0 12=zA5 tyL 12:=by kernel_rfl
theorem tyr15:tyOf zA0 15=zA5 tyL 15:=by kernel_rfl
theorem tyr16:tyOf zA0 16=zA5 tyL 16:=by kernel_rfl
theorem tyr17:tyOf zA0 17=zA5 tyL 17:=by kernel_rfl
theorem tyr19:tyOf zA0 19=zA5 tyL 19:=by kernel_rfl
theorem tyr20:tyOf zA0 20=zA5 tyL 20:=by kernel_rfl
theorem tyr22:tyOf zA0 22=zA5 tyL 22:=by kernel_rfl
theorem tyr23:tyOf zA0 23=zA5 tyL 23:=by kernel_rfl
theorem tyr25:tyOf zA0 25=zA5 tyL 25:=by kernel_rfl
theorem tyr26:tyOf zA0 26=zA5 tyL 26:=by kernel_rfl
theorem tyr27:tyOf zA0 27=zA5 tyL 27:=by kernel_rfl
theorem tyr28:tyOf zA0 28=zA5 tyL 28:=by kernel_rfl
theorem tyr31:tyOf zA0 31=zA5 tyL 31:=by kernel_rfl
theorem tyr33:tyOf zA0 33=zA5 tyL 33:=by kernel_rfl
theorem tyr37:tyOf zA0 37=zA5 tyL 37:=by kernel_rfl
theorem tyr39:tyOf zA0 39=zA5 tyL 39:=by kernel_rfl
theorem tyr40:tyOf zA0 40=zA5 tyL 40:=by kernel_rfl
theorem tyr42:tyOf zA0 42=zA5 tyL 42:=by kernel_rfl
theorem tyr45:tyOf zA0 45=zA5 tyL 45:=by kernel_rfl
theorem tyr47:tyOf zA0 47=zA5 tyL 47:=by kernel_rfl
theorem tyr51:tyOf zA0 51=zA5 tyL 51:=by kernel_rfl
theorem tyr53:tyOf zA0 53=zA5 tyL 53:=by kernel_rfl
theorem tyr66:tyOf zA0 66=zA5 tyL 66:=by kernel_rfl
theorem tyr67:tyOf zA0 67=zA5 tyL 67:=by kernel_rfl
theorem tyr69:tyOf zA0 69=zA5 tyL 69:=by kernel_rfl
theorem tyr70:tyOf zA0 70=zA5 tyL 70:=by kernel_rfl
theorem tyr72:tyOf zA0 72=zA5 tyL 72:=by kernel_rfl
theorem tyr76:tyOf zA0 76=zA5 tyL 76:=by kernel_rfl
theorem tyr78:tyOf zA0 78=zA5 tyL 78:=by kernel_rfl
theorem tyr81:tyOf zA0 81=zA5 tyL 81:=by kernel_rfl
theorem tyr82:tyOf zA0 82=zA5 tyL 82:=by kernel_rfl
theorem tyr83:tyOf zA0 83=zA5 tyL 83:=by kernel_rfl
theorem tyr85:tyOf zA0 85=zA5 tyL 85:=by kernel_rfl
theorem tyr86:tyOf zA0 86=zA5 tyL 86:=by kernel_rfl
theorem tyr88:tyOf zA0 88=zA5 tyL 88:=by kernel_rfl
theorem tyr90:tyOf zA0 90=zA5 tyL 90:=by kernel_rfl
theorem tyr91:tyOf zA0 91=zA5 tyL 91:=by kernel_rfl
theorem tyr92:tyOf zA0 92=zA5 tyL 92:=by kernel_rfl
theorem tyr99:tyOf zA0 99=zA5 tyL 99:=by kernel_rfl
theorem tyr102:tyOf zA0 102=zA5 tyL 102:=by kernel_rfl
theorem tyr104:tyOf zA0 104=zA5 tyL 104:=by kernel_rfl
theorem tyr108:tyOf zA0 108=zA5 tyL 108:=by kernel_rfl
theorem tyr111:tyOf zA0 111=zA5 tyL 111:=by kernel_rfl
theorem tyr114:tyOf zA0 114=zA5 tyL 114:=by kernel_rfl
theorem tyr115:tyOf zA0 115=zA5 tyL 115:=by kernel_rfl
theorem tyr116:tyOf zA0 116=zA5 tyL 116:=by kernel_rfl
theorem tyr119:tyOf zA0 119=zA5 tyL 119:=by kernel_rfl
theorem tyr122:tyOf zA0 122=zA5 tyL 122:=by kernel_rfl
theorem tyr124:tyOf zA0 124=zA5 tyL 124:=by kernel_rfl
theorem tyr125:tyOf zA0 125=zA5 tyL 125:=by kernel_rfl
theorem tyr127:tyOf zA0 127=zA5 tyL 127:=by kernel_rfl
theorem tyr128:tyOf zA0 128=zA5 tyL 128:=by kernel_rfl
theorem tyr130:tyOf zA0 130=zA5 tyL 130:=by kernel_rfl
theorem tyr132:tyOf zA0 132=zA5 tyL 132:=by kernel_rfl
theorem tyr136:tyOf zA0 136=zA5 tyL 136:=by kernel_rfl
theorem tyr137:tyOf zA0 137=zA5 tyL 137:=by kernel_rfl
theorem tyr138:tyOf zA0 138=zA5 tyL 138:=by kernel_rfl
theorem tyr142:tyOf zA0 142=zA5 tyL 142:=by kernel_rfl
theorem tyr144:tyOf zA0 144=zA5 tyL 144:=by kernel_rfl
theorem tyr146:tyOf zA0 146=zA5 tyL 146:=by kernel_rfl
theorem tyr148:tyOf zA0 148=zA5 tyL 148:=by kernel_rfl
theorem tyr150:tyOf zA0 150=zA5 tyL 150:=by kernel_rfl
theorem tyr151:tyOf zA0 151=zA5 tyL 151:=by kernel_rfl
theorem tyr153:tyOf zA0 153=zA5 tyL 153:=by kernel_rfl
theorem tyr154:tyOf zA0 154=zA5 tyL 154:=by kernel_rfl
theorem tyr157:tyOf zA0 157=zA5 tyL 157:=by kernel_rfl
theorem tyr160:tyOf zA0 160=zA5 tyL 160:=by kernel_rfl
theorem tyr162:tyOf zA0 162=zA5 tyL 162:=by kernel_rfl
theorem tyr163:tyOf zA0 163=zA5 tyL 163:=by kernel_rfl
theorem tyr164:tyOf zA0 164=zA5 tyL 164:=by kernel_rfl
theorem tyr165:tyOf zA0 165=zA5 tyL 165:=by kernel_rfl
theorem tyr168:tyOf zA0 168=zA5 tyL 168:=by kernel_rfl
theorem tyr172:tyOf zA0 172=zA5 tyL 172:=by kernel_rfl
theorem tyr173:tyOf zA0 173=zA5 tyL 173:=by kernel_rfl
theorem tyr175:tyOf zA0 175=zA5 tyL 175:=by kernel_rfl
theorem tyr177:tyOf zA0 177=zA5 tyL 177:=by kernel_rfl
theorem tyr178:tyOf zA0 178=zA5 tyL 178:=by kernel_rfl
theorem tyr179:tyOf zA0 179=zA5 tyL 179:=by kernel_rfl
theorem tyr183:tyOf zA0 183=zA5 tyL 183:=by kernel_rfl
theorem tyr186:tyOf zA0 186=zA5 tyL 186:=by kernel_rfl
theorem tyr190:tyOf zA0 190=zA5 tyL 190:=by kernel_rfl
theorem tyr192:tyOf zA0 192=zA5 tyL 192:=by kernel_rfl
theorem tyr200:tyOf zA0 200=zA5 tyL 200:=by kernel_rfl
theorem ty_rows:∀ k∈[1,2,3,4,5,6,8,12,15,16,17,19,20,22,23,25,26,27,28,31,33,37,39,40,42,45,47,51,53,66,67,69,70,72,76,78,81,82,83,85,86,88,90,91,92,99,102,104,108,111,114,115,116,119,122,124,125,127,128,130,132,136,137,138,142,144,146,148,150,151,153,154,157,160,162,163,164,165,168,172,173,175,177,178,179,183,186,190,192,200],tyOf zA0 k=zA5 tyL k:=by
 simp only [List.forall_mem_cons]
 exact ⟨tyr1,tyr2,tyr3,tyr4,tyr5,tyr6,tyr8,tyr12,tyr15,tyr16,tyr17,tyr19,tyr20,tyr22,tyr23,tyr25,tyr26,tyr27,tyr28,tyr31,tyr33,tyr37,tyr39,tyr40,tyr42,tyr45,tyr47,tyr51,tyr53,tyr66,tyr67,tyr69,tyr70,tyr72,tyr76,tyr78,tyr81,tyr82,tyr83,tyr85,tyr86,tyr88,tyr90,tyr91,tyr92,tyr99,tyr102,tyr104,tyr108,tyr111,tyr114,tyr115,tyr116,tyr119,tyr122,tyr124,tyr125,tyr127,tyr128,tyr130,tyr132,tyr136,tyr137,tyr138,tyr142,tyr144,tyr146,tyr148,tyr150,tyr151,tyr153,tyr154,tyr157,tyr160,tyr162,tyr163,tyr164,tyr165,tyr168,tyr172,tyr173,tyr175,tyr177,tyr178,tyr179,tyr183,tyr186,tyr190,tyr192,tyr200,List.forall_mem_nil _⟩
theorem eqr2:∀ st ks,zA5 eqL 2=some (st,ks)→zAd zA0 8 2=some ks∧isStr zA0 2=st∧zA0.eqGuardType zA0.depth 2=false:=fun _ _ h=>by
 injection h with h;injection h with h1 h2;subst h1;subst h2
 exact ⟨by kernel_rfl,by kernel_rfl,by kernel_rfl⟩
theorem eqr3:∀ st ks,zA5 eqL 3=some (st,ks)→zAd zA0 8 3=some ks∧isStr zA0 3=st∧zA0.eqGuardType zA0.depth 3=false:=fun _ _ h=>by
 injection h with h;injection h with h1 h2;subst h1;subst h2
 exact ⟨by kernel_rfl,by kernel_rfl,by kernel_rfl⟩
theorem eqr4:∀ st ks,zA5 eqL 4=some (st,ks)→zAd zA0 8 4=some ks∧isStr zA0 4=st∧zA0.eqGuardType zA0.depth 4=false:=fun _ _ h=>by
 injection h with h;injection h with h1 h2;subst h1;subst h2
 exact ⟨by kernel_rfl,by kernel_rfl,by kernel_rfl⟩
theorem eqr5:∀ st ks,zA5 eqL 5=some (st,ks)→zAd zA0 8 5=some ks∧isStr zA0 5=st∧zA0.eqGuardType zA0.depth 5=false:=fun _ _ h=>by
 injection h with h;injection h with h1 h2;subst h1;subst h2
 exact ⟨by kernel_rfl,by kernel_rfl,by kernel_rfl⟩
theorem eqr6:∀ st ks,zA5 eqL 6=some (st,ks)→zAd zA0 8 6=some ks∧isStr zA0 6=st∧zA0.eqGuardType zA0.depth 6=false:=fun _ _ h=>by
 injection h with h;injection h with h1 h2;subst h1;subst h2
 exact ⟨by kernel_rfl,by kernel_rfl,by kernel_rfl⟩
theorem eqr8:∀ st ks,zA5 eqL 8=some (st,ks)→zAd zA0 8 8=some ks∧isStr zA0 8=st∧zA0.eqGuardType zA0.depth 8=false:=fun _ _ h=>by
 injection h with h;injection h with h1 h2;subst h1;subst h2
 exact ⟨by kernel_rfl,by kernel_rfl,by kernel_rfl⟩
theorem eqr12:∀ st ks,zA5 eqL 12=some (st,ks)→zAd zA0 8 12=some ks∧isStr zA0 12=st∧zA0.eqGuardType zA0.depth 12=false:=fun _ _ h=>by
 injection h with h;injection h with h1 h2;subst h1;subst h2
 exact ⟨by kernel_rfl,by kernel_rfl,by kernel_rfl⟩
theorem eqr28:∀ st ks,zA5 eqL 28=some (st,ks)→zAd zA0 8 28=some ks∧isStr zA0 28=st∧zA0.eqGuardType zA0.depth 28=false:=fun _ _ h=>by
 injection h with h;injection h with h1 h2;subst h1;subst h2
 exact ⟨by kernel_rfl,by kernel_rfl,by kernel_rfl⟩
theorem eqr33:∀ st ks,zA5 eqL 33=some (st,ks)→zAd zA0 8 33=some ks∧isStr zA0 33=st∧zA0.eqGuardType zA0.depth 33=false:=fun _ _ h=>by
 injection h with h;injection h with h1 h2;subst h1;subst h2
 exact ⟨by kernel_rfl,by kernel_rfl,by kernel_rfl⟩
theorem eqr37:∀ st ks,zA5 eqL 37=some (st,ks)→zAd zA0 8 37=some ks∧isStr zA0 37=st∧zA0.eqGuardType zA0.depth 37=false:=fun _ _ h=>by
 injection h with h;injection h with h1 h2;subst h1;subst h2
 exact ⟨by kernel_rfl,by kernel_rfl,by kernel_rfl⟩
theorem eqr39:∀ st ks,zA5 eqL 39=some (st,ks)→zAd zA0 8 39=some ks∧isStr zA0 39=st∧zA0.eqGuardType zA0.depth 39=false:=fun _ _ h=>by
 injection h with h;injection h with h1 h2;subst h1;subst h2
 exact ⟨by kernel_rfl,by kernel_rfl,by kernel_rfl⟩
theorem eqr45:∀ st ks,zA5 eqL 45=some (st,ks)→zAd zA0 8 45=some ks∧isStr zA0 45=st∧zA0.eqGuardType zA0.depth 45=false:=fun _ _ h=>by
 injection h with h;injection h with h1 h2;subst h1;subst h2
 exact ⟨by kernel_rfl,by kernel_rfl,by kernel_rfl⟩
theorem eqr47:∀ st ks,zA5 eqL 47=some (st,ks)→zAd zA0 8 47=some ks∧isStr zA0 47=st∧zA0.eqGuardType zA0.depth 47=false:=fun _ _ h=>by
 injection h with h;injection h with h1 h2;subst h1;subst h2
 exact ⟨by kernel_rfl,by kernel_rfl,by kernel_rfl⟩
theorem eqr53:∀ st ks,zA5 eqL 53=some (st,ks)→zAd zA0 8 53=some ks∧isStr zA0 53=st∧zA0.eqGuardType zA0.depth 53=false:=fun _ _ h=>by
 injection h with h;injection h with h1 h2;subst h1;subst h2
 exact ⟨by kernel_rfl,by kernel_rfl,by kernel_rfl⟩
theorem eqr81:∀ st ks,zA5 eqL 81=some (st,ks)→zAd zA0 8 81=some ks∧isStr zA0 81=st∧zA0.eqGuardType zA0.depth 81=false:=fun _ _ h=>by
 injection h with h;injection h with h1 h2;subst h1;subst h2
 exact ⟨by kernel_rfl,by kernel_rfl,by kernel_rfl⟩
theorem eqr108:∀ st ks,zA5 eqL 108=some (st,ks)→zAd zA0 8 108=some ks∧isStr zA0 108=st∧zA0.eqGuardType zA0.depth 108=false:=fun _ _ h=>by
 injection h with h;injection h with h1 h2;subst h1;subst h2
 exact ⟨by kernel_rfl,by kernel_rfl,by kernel_rfl⟩
theorem eqr111:∀ st ks,zA5 eqL 111=some (st,ks)→zAd zA0 8 111=some ks∧isStr zA0 111=st∧zA0.eqGuardType zA0.depth 111=false:=fun _ _ h=>by
 injection h with h;injection h with h1 h2;subst h1;subst h2
 exact ⟨by kernel_rfl,by kernel_rfl,by kernel_rfl⟩
theorem eqr119:∀ st ks,zA5 eqL 119=some (st,ks)→zAd zA0 8 119=some ks∧isStr zA0 119=st∧zA0.eqGuardType zA0.depth 119=false:=fun _ _ h=>by
 injection h with h;injection h with h1 h2;subst h1;subst h2
 exact ⟨by kernel_rfl,by kernel_rfl,by kernel_rfl⟩
theorem eqr122:∀ st ks,zA5 eqL 122=some (st,ks)→zAd zA0 8 122=some ks∧isStr zA0 122=st∧zA0.eqGuardType zA0.depth 122=false:=fun _ _ h=>by
 injection h with h;injection h with h1 h2;subst h1;subst h2
 exact ⟨by kernel_rfl,by kernel_rfl,by kernel_rfl⟩
theorem eqr124:∀ st ks,zA5 eqL 124=some (st,ks)→zAd zA0 8 124=some ks∧isStr zA0 124=st∧zA0.eqGuardType zA0.depth 124=false:=fun _ _ h=>by
 injection h with h;injection h with h1 h2;subst h1;subst h2
 exact ⟨by kernel_rfl,by kernel_rfl,by kernel_rfl⟩
theorem eqr127:∀ st ks,zA5 eqL 127=some (st,ks)→zAd zA0 8 127=some ks∧isStr zA0 127=st∧zA0.eqGuardType zA0.depth 127=false:=fun _ _ h=>by
 injection h with h;injection h with h1 h2;subst h1;subst h2
 exact ⟨by kernel_rfl,by kernel_rfl,by kernel_rfl⟩
theorem eqr128:∀ st ks,zA5 eqL 128=some (st,ks)→zAd zA0 8 128=some ks∧isStr zA0 128=st∧zA0.eqGuardType zA0.depth 128=false:=fun _ _ h=>by
 injection h with h;injection h with h1 h2;subst h1;subst h2
 exact ⟨by kernel_rfl,by kernel_rfl,by kernel_rfl⟩
theorem eqr130:∀ st ks,zA5 eqL 130=some (st,ks)→zAd zA0 8 130=some ks∧isStr zA0 130=st∧zA0.eqGuardType zA0.depth 130=false:=fun _ _ h=>by
 injection h with h;injection h with h1 h2;subst h1;subst h2
 exact ⟨by kernel_rfl,by kernel_rfl,by kernel_rfl⟩
theorem eqr136:∀ st ks,zA5 eqL 136=some (st,ks)→zAd zA0 8 136=some ks∧isStr zA0 136=st∧zA0.eqGuardType zA0.depth 136=false:=fun _ _ h=>by
 injection h with h;injection h with h1 h2;subst h1;subst h2
 exact ⟨by kernel_rfl,by kernel_rfl,by kernel_rfl⟩
theorem eqr142:∀ st ks,zA5 eqL 142=some (st,ks)→zAd zA0 8 142=some ks∧isStr zA0 142=st∧zA0.eqGuardType zA0.depth 142=false:=fun _ _ h=>by
 injection h with h;injection h with h1 h2;subst h1;subst h2
 exact ⟨by kernel_rfl,by kernel_rfl,by kernel_rfl⟩
theorem eqr144:∀ st ks,zA5 eqL 144=some (st,ks)→zAd zA0 8 144=some ks∧isStr zA0 144=st∧zA0.eqGuardType zA0.depth 144=false:=fun _ _ h=>by
 injection h with h;injection h with h1 h2;subst h1;subst h2
 exact ⟨by kernel_rfl,by kernel_rfl,by kernel_rfl⟩
theorem eqr157:∀ st ks,zA5 eqL 157=some (st,ks)→zAd zA0 8 157=some ks∧isStr zA0 157=st∧zA0.eqGuardType zA0.depth 157=false:=fun _ _ h=>by
 injection h with h;injection h with h1 h2;subst h1;subst h2
 exact ⟨by kernel_rfl,by kernel_rfl,by kernel_rfl⟩
theorem eqr168:∀ st ks,zA5 eqL 168=some (st,ks)→zAd zA0 8 168=some ks∧isStr zA0 168=st∧zA0.eqGuardType zA0.depth 168=false:=fun _ _ h=>by
 injection h with h;injection h with h1 h2;subst h1;subst h2
 exact ⟨by kernel_rfl,by kernel_rfl,by kernel_rfl⟩
theorem eqr175:∀ st ks,zA5 eqL 175=some (st,ks)→zAd zA0 8 175=some ks∧isStr zA0 175=st∧zA0.eqGuardType zA0.depth 175=false:=fun _ _ h=>by
 injection h with h;injection h with h1 h2;subst h1;subst h2
 exact ⟨by kernel_rfl,by kernel_rfl,by kernel_rfl⟩
theorem eqr177:∀ st ks,zA5 eqL 177=some (st,ks)→zAd zA0 8 177=some ks∧isStr zA0 177=st∧zA0.eqGuardType zA0.depth 177=false:=fun _ _ h=>by
 injection h with h;injection h with h1 h2;subst h1;subst h2
 exact ⟨by kernel_rfl,by kernel_rfl,by kernel_rfl⟩
theorem eqr190:∀ st ks,zA5 eqL 190=some (st,ks)→zAd zA0 8 190=some ks∧isStr zA0 190=st∧zA0.eqGuardType zA0.depth 190=false:=fun _ _ h=>by
 injection h with h;injection h with h1 h2;subst h1;subst h2
 exact ⟨by kernel_rfl,by kernel_rfl,by kernel_rfl⟩
theorem eqr192:∀ st ks,zA5 eqL 192=some (st,ks)→zAd zA0 8 192=some ks∧isStr zA0 192=st∧zA0.eqGuardType zA0.depth 192=false:=fun _ _ h=>by
 injection h with h;injection h with h1 h2;subst h1;subst h2
 exact ⟨by kernel_rfl,by kernel_rfl,by kernel_rfl⟩
theorem eqr200:∀ st ks,zA5 eqL 200=some (st,ks)→zAd zA0 8 200=some ks∧isStr zA0 200=st∧zA0.eqGuardType zA0.depth 200=false:=fun _ _ h=>by
 injection h with h;injection h with h1 h2;subst h1;subst h2
 exact ⟨by kernel_rfl,by kernel_rfl,by kernel_rfl⟩
theorem eq_rows:∀ k∈[2,3,4,5,6,8,12,28,33,37,39,45,47,53,81,108,111,119,122,124,127,128,130,136,142,144,157,168,175,177,190,192,200],∀ st ks,zA5 eqL k=some (st,ks)→zAd zA0 8 k=some ks∧isStr zA0 k=st∧zA0.eqGuardType zA0.depth k=false:=by
 simp only [List.forall_mem_cons]
 exact ⟨eqr2,eqr3,eqr4,eqr5,eqr6,eqr8,eqr12,eqr28,eqr33,eqr37,eqr39,eqr45,eqr47,eqr53,eqr81,eqr108,eqr111,eqr119,eqr122,eqr124,eqr127,eqr128,eqr130,eqr136,eqr142,eqr144,eqr157,eqr168,eqr175,eqr177,eqr190,eqr192,eqr200,List.forall_mem_nil _⟩
set_option maxRecDepth 100000 in
theorem fn_rows:∀ x∈fnL,zA0.funcs[x.1]? = some x.2:=by
 simp only [fnL,List.forall_mem_cons]
 exact ⟨Go.Proofs.Tryz.func0,Go.Proofs.Tryz.func1,Go.Proofs.Tryz.func2,Go.Proofs.Tryz.func3,Go.Proofs.Tryz.func4,Go.Proofs.Tryz.func5,Go.Proofs.Tryz.func6,Go.Proofs.Tryz.func7,Go.Proofs.Tryz.func8,Go.Proofs.Tryz.func9,Go.Proofs.Tryz.func10,Go.Proofs.Tryz.func11,Go.Proofs.Tryz.func12,Go.Proofs.Tryz.func13,Go.Proofs.Tryz.func14,Go.Proofs.Tryz.func15,Go.Proofs.Tryz.func16,Go.Proofs.Tryz.func17,Go.Proofs.Tryz.func18,Go.Proofs.Tryz.func19,Go.Proofs.Tryz.func20,Go.Proofs.Tryz.func21,Go.Proofs.Tryz.func22,Go.Proofs.Tryz.func23,Go.Proofs.Tryz.func24,Go.Proofs.Tryz.func25,Go.Proofs.Tryz.func26,Go.Proofs.Tryz.func27,Go.Proofs.Tryz.func28,Go.Proofs.Tryz.func29,Go.Proofs.Tryz.func30,Go.Proofs.Tryz.func31,Go.Proofs.Tryz.func32,Go.Proofs.Tryz.func33,Go.Proofs.Tryz.func34,Go.Proofs.Tryz.func35,Go.Proofs.Tryz.func36,Go.Proofs.Tryz.func37,Go.Proofs.Tryz.func38,Go.Proofs.Tryz.func39,Go.Proofs.Tryz.func40,Go.Proofs.Tryz.func41,Go.Proofs.Tryz.func42,Go.Proofs.Tryz.func43,Go.Proofs.Tryz.func44,Go.Proofs.Tryz.func45,Go.Proofs.Tryz.func46,Go.Proofs.Tryz.func47,Go.Proofs.Tryz.func48,Go.Proofs.Tryz.func49,Go.Proofs.Tryz.func50,Go.Proofs.Tryz.func51,Go.Proofs.Tryz.func52,Go.Proofs.Tryz.func53,Go.Proofs.Tryz.func54,Go.Proofs.Tryz.func55,Go.Proofs.Tryz.func56,Go.Proofs.Tryz.func57,Go.Proofs.Tryz.func58,Go.Proofs.Tryz.func59,Go.Proofs.Tryz.func60,Go.Proofs.Tryz.func61,Go.Proofs.Tryz.func62,Go.Proofs.Tryz.func63,Go.Proofs.Tryz.func64,Go.Proofs.Tryz.func65,Go.Proofs.Tryz.func66,Go.Proofs.Tryz.func67,Go.Proofs.Tryz.func68,Go.Proofs.Tryz.func69,Go.Proofs.Tryz.func70,Go.Proofs.Tryz.func71,Go.Proofs.Tryz.func72,Go.Proofs.Tryz.func73,Go.Proofs.Tryz.func74,Go.Proofs.Tryz.func75,Go.Proofs.Tryz.func76,Go.Proofs.Tryz.func77,Go.Proofs.Tryz.func78,Go.Proofs.Tryz.func79,Go.Proofs.Tryz.func80,Go.Proofs.Tryz.func81,Go.Proofs.Tryz.func82,Go.Proofs.Tryz.func83,Go.Proofs.Tryz.func84,Go.Proofs.Tryz.func85,Go.Proofs.Tryz.func86,Go.Proofs.Tryz.func87,Go.Proofs.Tryz.func88,Go.Proofs.Tryz.func89,Go.Proofs.Tryz.func90,Go.Proofs.Tryz.func91,Go.Proofs.Tryz.func92,Go.Proofs.Tryz.func93,Go.Proofs.Tryz.func94,Go.Proofs.Tryz.func95,Go.Proofs.Tryz.func96,Go.Proofs.Tryz.func97,Go.Proofs.Tryz.func98,Go.Proofs.Tryz.func99,Go.Proofs.Tryz.func100,Go.Proofs.Tryz.func101,Go.Proofs.Tryz.func102,Go.Proofs.Tryz.func103,Go.Proofs.Tryz.func104,Go.Proofs.Tryz.func105,Go.Proofs.Tryz.func106,Go.Proofs.Tryz.func107,Go.Proofs.Tryz.func108,Go.Proofs.Tryz.func109,Go.Proofs.Tryz.func110,Go.Proofs.Tryz.func111,Go.Proofs.Tryz.func112,Go.Proofs.Tryz.func113,Go.Proofs.Tryz.func114,Go.Proofs.Tryz.func115,Go.Proofs.Tryz.func116,Go.Proofs.Tryz.func117,Go.Proofs.Tryz.func118,Go.Proofs.Tryz.func119,Go.Proofs.Tryz.func120,Go.Proofs.Tryz.func121,List.forall_mem_nil _⟩
theorem meth_rows:(methL.all fun r=>r.2.all fun p=>methodOf zA0 r.1 p.1==some p.2)=true:=by kernel_rfl
theorem name_rows:(fnL.all fun x=>x.2.name != "runtime.NumGoroutine")=true:=by kernel_rfl
theorem code_rows:(fnL.all fun x=>match x.2.body with
 | some b=>codeOk x.2.ntmps b
 | none=>true)=true:=by kernel_rfl
theorem field_rows:(tyL.all fun x=>match x.2.d with
 | .struct fs=>fs.all fun p=>(zA5 tyL p.2).isSome
 | _=>true)=true:=by kernel_rfl
theorem keys_ty:tyL.map (·.1)=[1,2,3,4,5,6,8,12,15,16,17,19,20,22,23,25,26,27,28,31,33,37,39,40,42,45,47,51,53,66,67,69,70,72,76,78,81,82,83,85,86,88,90,91,92,99,102,104,108,111,114,115,116,119,122,124,125,127,128,130,132,136,137,138,142,144,146,148,150,151,153,154,157,160,162,163,164,165,168,172,173,175,177,178,179,183,186,190,192,200]:=rfl
theorem keys_eq:eqL.map (·.1)=[2,3,4,5,6,8,12,28,33,37,39,45,47,53,81,108,111,119,122,124,127,128,130,136,142,144,157,168,175,177,190,192,200]:=rfl
theorem ok0:Ok cfg0 zA0 where
 srt g h:=absurd (show false=true from h) (by simp)
 cpt g h:=absurd (show false=true from h) (by simp)
 ty t y h:=by
  have h':zA5 tyL t=some y:=h
  rw [ty_rows t (keys_ty ▸ List.mem_map.2 ⟨_,getAt_mem h',rfl⟩)];exact h'
 eq t st ks h:=by
  have h':zA5 eqL t=some (st,ks):=h
  exact eq_rows t (keys_eq ▸ List.mem_map.2 ⟨_,getAt_mem h',rfl⟩) st ks h'
 meth t n g h:=by
  have h':methT t n=some g:=h
  unfold methT at h'
  cases e:zA5 methL t with
  | none=>rw [e] at h';exact absurd h' (by simp)
  | some r =>
   rw [e] at h'
   have hm:=getAt_mem e
   have ha:=List.all_eq_true.1 meth_rows _ hm
   simp only [Option.map_eq_some_iff] at h'
   obtain ⟨p,hp,rfl⟩:=h'
   have h1:=List.find?_some hp
   have h2:=List.mem_of_find?_eq_some hp
   have h3:=List.all_eq_true.1 ha _ h2
   have e1:p.1=n:=by simpa using h1
   subst e1
   simpa using h3
 glob g v h:=by
  have h':zA5 globL g=some v:=h
  exact getAt_mem h'
 fns g fn h:=by
  have h':zA5 fnL g=some fn:=h
  have hm:=getAt_mem h'
  have hf:=fn_rows (g,fn) hm
  refine ⟨hf,?_,?_⟩
  ·have:=List.all_eq_true.1 name_rows _ hm
   simpa using this
  ·intro b hb
   have:=List.all_eq_true.1 code_rows _ hm
   simpa only [hb] using this
 fields t y fs h hd x hx:=by
  have h':zA5 tyL t=some y:=h
  have:=List.all_eq_true.1 field_rows _ (getAt_mem h')
  simp only [hd] at this
  exact Option.isSome_iff_exists.1 (List.all_eq_true.1 this _ hx)
end Go.Ab
namespace Go.Ab
set_option linter.unusedSimpArgs false
set_option linter.unusedVariables false
open Go.ChangeShapes Go.RowKit
theorem law_calls {C:Cfg} {P:Program} (ok:Ok C P) {f:FuncId} {args:List AV} {vals:List Value} {W:World} {H:Heap} {p:Option (AV×Bool)} (h:zA8 C P false f args [] none=some ⟨.ret (.bool true),H,p⟩)
  (hg:GlobOk (Cx.start W)) (hr:RelL (Cx.start W) args vals):Calls P f vals.toArray W fun e w'=>e=.returned (.bool true)∧Below W.heap.size W w':=by
 obtain ⟨n,hn⟩:=lim_ex h
 exact calls_true ok hn rfl hg hr
theorem post_below {P:Program} {T:Type} {enc:TypeId×Value→T} {f:Func} {s:ChangeSpec} {apart fresh handsOn again:Bool} {W W':World} {args:Array Value} {v:Value} {ds gs:List (DataW T)} {before pa pv:List MemPlace}
  (hW:DataW.Whole enc P f.params.toList s.vars apart W args.toList ds gs before)
  (hres:∀ (b:Nat) (sp:Nat→Bool) (hd:Bool),DataW.TrodAll enc P W' b sp hd f.resultTypes.toList (v.resultList f.resultTypes.size) (s.fn T (ds++gs)).results [])
  (hargs:∀ sp:Nat→Bool,(∀ p∈before,sp p.block=true)→DataW.TrodAll enc P W' 0 sp true f.params.toList args.toList (s.fn T (ds++gs)).args pa)
  (hvars:∀ sp:Nat→Bool,(∀ p∈before,sp p.block=true)→DataW.TrodVars enc P W' sp s.vars (s.fn T (ds++gs)).vars pv)
  (hps:before=pa++pv) (hb:Below W.heap.size W W')
  (hok:∀ (j:Nat) (t:TypeId) (r:Value),f.resultTypes[j]? = some t→(v.resultList f.resultTypes.size)[j]? = some r→Value.okWide P W' .any 0 t r) :
  s.post enc P f apart fresh handsOn again W args v W':=by
 have hold:∀ p∈before,(fun b=>decide (b<W.heap.size)) p.block=true:=fun p hp=>by simpa using hW.lt p hp
 have hlt:∀ p∈before,p.block<W.heap.size:=hW.lt
 refine ⟨ds,gs,before,[],pa,pv,hW,hres _ _ _,hargs _ hold,hvars _ hold,World.keptBut_mono (fun p hp=>⟨hp,?_⟩) (hb.frame (fun p=>p∈before)),fun _=>?_⟩
 ·rw [hps,List.mem_append] at hp
  exact Or.inr hp
 ·obtain ⟨_,_,_,_,_,hz,hn⟩:=hW
  refine ⟨hok,_,_,([]++pa)++pv,⟨[]++pa,pv,trodAll_append (hargs _ (fun _ _=>rfl)) (hres _ _ _),hvars _ (fun _ _=>rfl),rfl,?_,?_⟩,?_⟩
  ·intro b off hp
   have hm:MemPlace.cell b off∈before:=by rw [hps];simpa using hp
   rw [hb.frozen (p:=⟨b,off,none⟩) (hlt _ hm)]
   exact hz b off hm
  ·intro ha
   have:=hn ha
   rw [hps] at this
   simpa using this
  ·intro p hp _
   rw [hps]
   simpa using hp
end Go.Ab
namespace Go.Ab
set_option linter.unusedSimpArgs false
set_option linter.unusedVariables false
open Go.ChangeShapes Go.RowKit Go.WideShapes
inductive Sh where
 | int (k:IntKind)
 | bool
 | sl (agg:Bool) (e:Sh)
 | unit
 | cons (a r:Sh)
def aggTy (P:Program) (t:TypeId):Bool :=
 match P.underlying t with
 | some (.struct _)=>true
 | some (.array _ _)=>true
 | _=>false
def shFields (P:Program) (rec:TypeId→Option Sh) (tot:Nat):List Field→Nat→Option Sh
 | [],off=>if off=tot then some .unit else none
 | f::r,off =>
  if f.offset=off then
   match rec f.type,shFields P rec tot r (off+P.cellsOf f.type) with
   | some a,some b=>some (.cons a b)
   | _,_=>none
  else none
def shRep:Nat→Sh→Sh
 | 0,_=>.unit
 | n+1,s=>.cons s (shRep n s)
def shOf (P:Program):Nat→TypeId→Option Sh
 | 0,_=>none
 | n+1,t =>
  match P.underlying t with
  | some (.int k)=>some (.int k)
  | some .bool=>some .bool
  | some (.slice e)=>if 0<P.cellsOf e then (shOf P n e).map (.sl (aggTy P e)) else none
  | some (.struct fs)=>shFields P (shOf P n) (P.cellsOf t) fs.toList 0
  | some (.array k e)=>if P.cellsOf t=k*P.cellsOf e then (shOf P n e).map (shRep k) else none
  | _=>none
def pack (agg:Bool) (cs:List AV):AV:=if agg then .agg cs else cs.headD .undef
def Shaped:Sh→List AV→Prop
 | .int k,l=>∃ n,l=[.int k n]∧(Lit.int k n).wf=true
 | .bool,l=>∃ b,l=[.bool b]
 | .sl agg e,l=>∃ f es,l=[.sl f es]∧∀ x∈es,∃ cs,Shaped e cs∧x=pack agg cs
 | .unit,l=>l=[]
 | .cons a r,l=>∃ x y,l=x++y∧Shaped a x∧Shaped r y
theorem rel_sl {c:Cx} {f:Bool} {es:List AV} {v:Value}:Rel c (.sl f es) v=(∃ a cap,v=.slice a es.length cap∧((f=true→cap=es.length)∧es.length≤cap)∧(ltL 0 es=true∧∀ x∈es,known x=true) ∧
   (es=[]∨∃ b o sz ys,a=some ⟨b,o,none⟩∧b<c.w.heap.size∧¬ c.owned b∧RelL c es ys∧(∀ y∈ys,y.cells.size=sz)∧Lies c.w b o (flat ys))):=by
 rw [Rel]
theorem relL_one {c:Cx} {v:AV} {y:Value} (h:Rel c v y):RelL c [v] [y]:=by
 simp only [RelL]
 exact ⟨y,[],rfl,h,rfl⟩
structure ReadOk (W:World) (sh:Sh) (cs:List Value) (avs:List AV):Prop where
 rel:RelL (Cx.start W) avs cs
 shp:Shaped sh avs
 lt:ltL 0 avs=true
 sca:zAc avs=true
section
variable {H:Type} {enc:TypeId×Value→H} {P:Program} {W:World}
theorem fields_read {rec:TypeId→Option Sh} {tot n:Nat} {cs:List Value} (hl:cs.length=tot)
  (ih:∀ t sh,rec t=some sh→∀ cs x,DataW.trod enc P W 0 (fun _=>true) true n t cs=some x→∃ avs,ReadOk W sh cs avs) :
  ∀ (fs:List Field) (off:Nat) (sh:Sh),shFields P rec tot fs off=some sh →
   (∀ f∈fs,∃ x,DataW.trod enc P W 0 (fun _=>true) true n f.type ((cs.drop f.offset).take (P.cellsOf f.type))=some x)→∃ avs,ReadOk W sh (cs.drop off) avs
 | [],off,sh,h,_=>by
  simp only [shFields] at h
  split at h
  ·rename_i e
   injection h with h
   subst h
   exact ⟨[],by rw [List.drop_eq_nil_of_le (by omega)];simp only [RelL],rfl,rfl,rfl⟩
  ·cases h
 | f::r,off,sh,h,hf=>by
  simp only [shFields] at h
  split at h
  ·rename_i e
   split at h
   ·rename_i a b ha hb
    injection h with h
    subst h
    obtain ⟨x,hx⟩:=hf f (List.mem_cons_self ..)
    rw [e] at hx
    obtain ⟨avs,h1⟩:=ih f.type a ha _ x hx
    obtain ⟨bvs,h2⟩:=fields_read hl ih r _ b hb fun g hg=>hf g (List.mem_cons_of_mem _ hg)
    refine ⟨avs++bvs,?_,⟨avs,bvs,rfl,h1.shp,h2.shp⟩,by rw [ltL_append,h1.lt,h2.lt];rfl,by rw [allScalar_append,h1.sca,h2.sca];rfl⟩
    have:cs.drop off=(cs.drop off).take (P.cellsOf f.type)++cs.drop (off+P.cellsOf f.type):=by
     rw [← List.drop_drop,List.take_append_drop]
    rw [this]
    exact RelL.append h1.rel h2.rel
   ·cases h
  ·cases h
theorem array_read {k sz:Nat} {e:TypeId} {she:Sh} {n:Nat} {cs:List Value} (hsz:P.cellsOf e=sz) (hl:cs.length=k*sz)
  (ih:∀ cs x,DataW.trod enc P W 0 (fun _=>true) true n e cs=some x→∃ avs,ReadOk W she cs avs)
  (hall:∀ i,i<k→∃ x,DataW.trod enc P W 0 (fun _=>true) true n e ((cs.drop (i*sz)).take sz)=some x):∀ j,j≤k→∃ avs,ReadOk W (shRep j she) (cs.drop ((k-j)*sz)) avs
 | 0,_=>⟨[],by rw [List.drop_eq_nil_of_le (by rw [hl];exact Nat.le_refl _)];simp only [RelL],rfl,rfl,rfl⟩
 | j+1,hj=>by
  obtain ⟨bvs,h2⟩:=array_read hsz hl ih hall j (by omega)
  obtain ⟨x,hx⟩:=hall (k-(j+1)) (by omega)
  obtain ⟨avs,h1⟩:=ih _ _ hx
  refine ⟨avs++bvs,?_,⟨avs,bvs,rfl,h1.shp,h2.shp⟩,by rw [ltL_append,h1.lt,h2.lt];rfl,by rw [allScalar_append,h1.sca,h2.sca];rfl⟩
  have e1:(k-j)*sz=(k-(j+1))*sz+sz:=by
   rw [show k-j=(k-(j+1))+1 by omega,Nat.add_mul,Nat.one_mul]
  have:cs.drop ((k-(j+1))*sz)=(cs.drop ((k-(j+1))*sz)).take sz++cs.drop ((k-j)*sz):=by
   rw [e1,← List.drop_drop,List.take_append_drop]
  rw [this]
  exact RelL.append h1.rel h2.rel
theorem cells_single {y:Value} (h:∀ cs,y≠.agg cs):y.cells=#[y]:=by
 cases y<;>first | rfl | exact absurd rfl (h _)
theorem elems_read {n sz:Nat} {e:TypeId} {sh:Sh} {agg:Bool} {b o:Nat} (hsz:P.cellsOf e=sz) (hpos:0<sz)
  (ih:∀ cs x,DataW.trod enc P W 0 (fun _=>true) true n e cs=some x→∃ avs,ReadOk W sh cs avs∧(agg=false→∃ y,cs=[y]∧∀ z,y≠.agg z)) {len:Nat}
  (hel:∀ i,i<len→∃ x,(W.cells? 0 (Addr.add ⟨b,o,none⟩ (i*sz)) sz).bind (DataW.trod enc P W 0 (fun _=>true) true n e)=some x) :
  ∀ j,j≤len→∃ es ys,es.length=j∧RelL (Cx.start W) es ys∧(∀ y∈ys,y.cells.size=sz)∧Lies W b o (flat ys)∧ltL 0 es=true∧∀ x∈es,known x=true∧∃ cs,Shaped sh cs∧x=pack agg cs
 | 0,_=>⟨[],[],rfl,by simp only [RelL],by simp,by intro k hk;simp [flat] at hk,rfl,by simp⟩
 | j+1,hj=>by
  obtain ⟨es,ys,h1,h2,h3,h4,h5,h6⟩:=elems_read hsz hpos ih hel j (by omega)
  obtain ⟨x,hx⟩:=hel j (by omega)
  rw [Option.bind_eq_some_iff] at hx
  obtain ⟨cs,hc,ht⟩:=hx
  obtain ⟨-,hcl,hcc⟩:=World.cells?_some hc
  obtain ⟨avs,hr,hs⟩:=ih cs x ht
  have hyl:ys.length=j:=by rw [← h2.length,h1]
  have hfl:(flat ys).length=j*sz:=by rw [zAr h3,hyl]
  have hav:avs.length=sz:=by rw [hr.rel.length,hcl]
  have key:∃ z:Value,z.cells.toList=cs∧Rel (Cx.start W) (pack agg avs) z∧known (pack agg avs)=true∧(pack agg avs).lt 0=true:=by
   cases agg with
   | true =>
    refine ⟨.agg cs.toArray,by simp [Value.cells],?_,?_,?_⟩
    ·simp only [pack,if_true,Rel]
     exact ⟨cs.toArray,rfl,hr.rel⟩
    ·simp only [pack,if_true,known,AV.cells,hr.sca]
    ·simp only [pack,if_true,AV.lt,hr.lt]
   | false =>
    obtain ⟨y,rfl,hy⟩:=hs rfl
    have:=hr.rel
    cases avs with
    | nil=>simp at hcl hav;omega
    | cons a r =>
     simp only [RelL] at this
     obtain ⟨y',s',he,hra,hrr⟩:=this
     simp only [List.cons.injEq] at he
     obtain ⟨rfl,rfl⟩:=he
     have hs2:=hr.sca
     have hl2:=hr.lt
     simp only [zAc,Bool.and_eq_true] at hs2
     simp only [ltL,Bool.and_eq_true] at hl2
     refine ⟨y,by rw [cells_single hy],by simpa only [pack,Bool.false_eq_true,if_false,List.headD_cons] using hra,?_,by simpa only [pack,Bool.false_eq_true,if_false,List.headD_cons] using hl2.1⟩
     simp only [pack,Bool.false_eq_true,if_false,List.headD_cons,known]
     have:a.cells=[a]:=by
      have:=hs2.1
      cases a<;>simp only [AV.scalar] at this<;>first | rfl | cases this
     rw [this];simp only [zAc,hs2.1,Bool.and_self]
  obtain ⟨z,hz1,hz2,hz3,hz4⟩:=key
  refine ⟨es++[pack agg avs],ys++[z],by simp [h1],RelL.append h2 (by simp only [RelL];exact ⟨z,[],rfl,hz2,rfl⟩),?_,?_,by rw [ltL_append,h5];simp only [ltL,hz4,Bool.and_self],?_⟩
  ·intro y hy
   rcases List.mem_append.1 hy with hy | hy
   ·exact h3 y hy
   ·rw [List.mem_singleton] at hy
    subst hy
    rw [← Array.length_toList,hz1,hcl]
  ·intro k hk
   rw [zB8] at hk ⊢
   have hfz:flat [z]=cs:=by simp [flat,hz1]
   rw [hfz] at hk ⊢
   rw [List.length_append,hfl,hcl] at hk
   rcases Nat.lt_or_ge k (j*sz) with hlt | hge
   ·rw [List.getElem?_append_left (by omega)]
    exact h4 k (by omega)
   ·rw [List.getElem?_append_right (by omega),hfl]
    have:=hcc (k-j*sz) (by omega)
    rw [add_plain,add_plain] at this
    rw [← this]
    congr 2
    omega
  ·intro x' hx'
   rcases List.mem_append.1 hx' with hx' | hx'
   ·exact h6 x' hx'
   ·rw [List.mem_singleton] at hx'
    subst hx'
    exact ⟨hz3,avs,hr.shp,rfl⟩
theorem aggTy_false {e:TypeId} (h:aggTy P e=false) {n:Nat} {sh:Sh} (hsh:shOf P n e=some sh) {m:Nat} {cs:List Value} {x:DataW H×List MemPlace} (ht:DataW.trod enc P W 0 (fun _=>true) true m e cs=some x):∃ y,cs=[y]∧∀ z,y≠.agg z:=by
 cases n with
 | zero=>simp [shOf] at hsh
 | succ n =>
  simp only [shOf] at hsh
  split at hsh
  ·rename_i hu
   obtain ⟨k,rfl,-,-⟩:=DataW.trod_int hu ht
   exact ⟨_,rfl,fun z hz=>by cases hz⟩
  ·rename_i hu
   obtain ⟨k,rfl,-⟩:=DataW.trod_bool hu ht
   exact ⟨_,rfl,fun z hz=>by cases hz⟩
  ·rename_i hu
   rcases DataW.trod_slice hu ht with ⟨rfl,-⟩ | ⟨a,len,cap,_,_,_,_,rfl,_⟩
   ·exact ⟨_,rfl,fun z hz=>by cases hz⟩
   ·exact ⟨_,rfl,fun z hz=>by cases hz⟩
  ·rename_i hu
   simp [aggTy,hu] at h
  ·rename_i hu
   simp [aggTy,hu] at h
  ·cases hsh
theorem reads:∀ (n:Nat) (t:TypeId) (sh:Sh),shOf P n t=some sh→∀ (m:Nat) (cs:List Value) (x:DataW H×List MemPlace),DataW.trod enc P W 0 (fun _=>true) true m t cs=some x→∃ avs,ReadOk W sh cs avs
 | 0,t,sh,h,_,_,_,_=>by simp [shOf] at h
 | n+1,t,sh,h,m,cs,x,hx=>by
  simp only [shOf] at h
  split at h
  ·rename_i k hu
   injection h with h;subst h
   obtain ⟨z,rfl,-,hw⟩:=DataW.trod_int hu hx
   exact ⟨[.int k z],by simp only [RelL,Rel];exact ⟨_,[],rfl,rfl,rfl⟩,⟨z,rfl,hw⟩,rfl,rfl⟩
  ·rename_i hu
   injection h with h;subst h
   obtain ⟨z,rfl,-⟩:=DataW.trod_bool hu hx
   exact ⟨[.bool z],by simp only [RelL,Rel];exact ⟨_,[],rfl,rfl,rfl⟩,⟨z,rfl⟩,rfl,rfl⟩
  ·rename_i e hu
   split at h
   ·rename_i hpos
    rw [Option.map_eq_some_iff] at h
    obtain ⟨she,he,rfl⟩:=h
    rcases DataW.trod_slice hu hx with ⟨rfl,-⟩ | ⟨a,len,cap,elems,rest,m',hm,rfl,-,-,hle,hcap,hel,hall,-,-⟩
    ·refine ⟨[.sl true []],relL_one (by rw [rel_sl];exact ⟨none,0,rfl,⟨fun _=>rfl,Nat.le_refl _⟩,⟨rfl,by simp⟩,.inl rfl⟩),⟨true,[],rfl,by simp⟩,rfl,rfl⟩
    ·rcases Nat.eq_zero_or_pos len with h0 | h0
     ·subst h0
      refine ⟨[.sl false []],relL_one (by rw [rel_sl];exact ⟨some a,cap,rfl,⟨fun h=>by simp at h,Nat.zero_le _⟩,⟨rfl,by simp⟩,.inl rfl⟩),⟨false,[],rfl,by simp⟩,rfl,rfl⟩
     ·obtain ⟨b,o,spot⟩:=a
      have hel':∀ i,i<len→∃ x,(W.cells? 0 (Addr.add ⟨b,o,spot⟩ (i*P.cellsOf e)) (P.cellsOf e)).bind (DataW.trod enc P W 0 (fun _=>true) true m' e)=some x:=by
       intro i hi
       rw [hall i hi]
       exact ⟨elems[i]'(by omega),List.getElem?_eq_getElem (by omega)⟩
      have hb0:b<W.heap.size∧spot=none:=by
       obtain ⟨y,hy⟩:=hel' 0 h0
       rw [Option.bind_eq_some_iff] at hy
       obtain ⟨c0,hc0,-⟩:=hy
       obtain ⟨-,hl0,hg0⟩:=World.cells?_some hc0
       have g:=hg0 0 hpos
       rw [List.getElem?_eq_getElem (by omega)] at g
       have hsp:spot=none:=by simpa [Addr.add] using World.cell?_spot g
       subst hsp
       refine ⟨?_,rfl⟩
       rw [add_plain,add_plain] at g
       simp only [World.cell?] at g
       refine Nat.lt_of_not_le fun hle=>?_
       have:W.heap[b]? = none:=by simp [hle]
       simp [this] at g
      obtain ⟨hb,rfl⟩:=hb0
      obtain ⟨es,ys,h1,h2,h3,h4,h5,h6⟩:=elems_read (sh:=she) (agg:=aggTy P e) rfl hpos (fun cs x hx=>by
       obtain ⟨avs,ha⟩:=reads n e she he m' cs x hx
       exact ⟨avs,ha,fun hf=>aggTy_false hf he hx⟩) hel' len (Nat.le_refl _)
      refine ⟨[.sl false es],?_,⟨false,es,rfl,fun x hx=>(h6 x hx).2⟩,rfl,rfl⟩
      refine relL_one ?_
      rw [rel_sl]
      refine ⟨some ⟨b,o,none⟩,cap,by rw [h1],⟨fun h=>by simp at h,by omega⟩,⟨h5,fun x hx=>(h6 x hx).1⟩,.inr ⟨b,o,P.cellsOf e,ys,rfl,hb,?_,h2,h3,h4⟩⟩
      rintro ⟨l,hl⟩
      cases hl
   ·cases h
  ·rename_i fs hu
   obtain ⟨xs,m',rfl,-,hl,hfl,hall⟩:=DataW.trod_struct hu hx
   have:=fields_read (enc:=enc) (P:=P) (W:=W) (rec:=shOf P n) (tot:=P.cellsOf t) (n:=m') (cs:=cs) hl (fun t sh h cs x hx=>reads n t sh h m' cs x hx) fs.toList 0 sh h (by
    intro f hf
    obtain ⟨i,hi⟩:=List.mem_iff_getElem?.1 hf
    have hi':fs[i]? = some f:=by simpa using hi
    have hlt:i<xs.length:=by
     have:=(List.getElem?_eq_some_iff.1 hi).1
     simp at this;omega
    exact ⟨xs[i],by rw [hall i f hi',List.getElem?_eq_getElem hlt]⟩)
   simpa using this
  ·rename_i k e hu
   split at h
   ·rename_i hc
    rw [Option.map_eq_some_iff] at h
    obtain ⟨she,he,rfl⟩:=h
    obtain ⟨xs,m',rfl,-,hl,hxl,hall⟩:=DataW.trod_array hu hx
    have:=array_read (enc:=enc) (P:=P) (W:=W) (she:=she) (n:=m') (cs:=cs) (k:=k) rfl (by rw [hl,hc]) (fun cs x hx=>reads n e she he m' cs x hx) (fun i hi=>⟨xs[i]'(by omega),by rw [hall i hi,List.getElem?_eq_getElem (by omega)]⟩) k (Nat.le_refl _)
    simpa using this
   ·cases h
  ·cases h
theorem arg_agg {t:TypeId} {fs:Array Field} {n:Nat} {sh:Sh} {r:Reach} {b0:Nat} {v:Value} {d:DataW H} {ps:List MemPlace} (hu:P.underlying t=some (.struct fs)) (hsh:shOf P n t=some sh) (hval:Value.okWide P W r b0 t v) (hd:DataW.Trod enc P W 0 (fun _=>true) true t v d ps) :
  ∃ avs,Rel (Cx.start W) (.agg avs) v∧Shaped sh avs:=by
 obtain ⟨cs,rfl,-⟩:=okWide_struct hu hval
 obtain ⟨m,hm⟩:=hd
 obtain ⟨avs,h⟩:=reads n t sh hsh m _ _ hm
 refine ⟨avs,?_,h.shp⟩
 simp only [Rel]
 exact ⟨cs,rfl,h.rel⟩
theorem arg_sl {t e:TypeId} {n:Nat} {agg:Bool} {she:Sh} {r:Reach} {b0:Nat} {v:Value} {d:DataW H} {ps:List MemPlace} (hu:P.underlying t=some (.slice e)) (hsh:shOf P n t=some (.sl agg she)) (hval:Value.okWide P W r b0 t v) (hd:DataW.Trod enc P W 0 (fun _=>true) true t v d ps) :
  ∃ f es,Rel (Cx.start W) (.sl f es) v∧∀ x∈es,∃ cs,Shaped she cs∧x=pack agg cs:=by
 obtain ⟨a,len,cap,rfl⟩:=okWide_slice hu hval
 obtain ⟨m,hm⟩:=hd
 obtain ⟨avs,h⟩:=reads n t _ hsh m _ _ hm
 obtain ⟨f,es,rfl,hs⟩:=h.shp
 have hr:=h.rel
 rw [RelL] at hr
 obtain ⟨y,s,he,hy,-⟩:=hr
 simp only [Value.cells,List.cons.injEq] at he
 obtain ⟨rfl,-⟩:=he
 exact ⟨f,es,hy,hs⟩
theorem trod_keep {t:TypeId} (hl:laidOutB P=true) (hr:P.readableRec t=true) (hrow:t<P.types.size) {W':World} {v:Value} {d:DataW H} {ps:List MemPlace} {sp:Nat→Bool}
  (h:DataW.Trod enc P W 0 (fun _=>true) true t v d ps) (hb:Below W.heap.size W W') (hlt:∀ x∈ps,x.block<W.heap.size) (hs:∀ x∈ps,sp x.block=true) :
  DataW.Trod enc P W' 0 sp true t v d ps :=
 WideElems.Trod_stays hl hr hrow h (fun x hx=>hb.same (hlt x hx)) hs
theorem trodAll_keep (hl:laidOutB P=true) {W':World} {sp:Nat→Bool} (hb:Below W.heap.size W W'):∀ {ts:List TypeId} {vs:List Value} {ds:List (DataW H)} {ps:List MemPlace},(∀ t∈ts,P.readableRec t=true∧t<P.types.size) →
  DataW.TrodAll enc P W 0 (fun _=>true) true ts vs ds ps→(∀ x∈ps,x.block<W.heap.size)→(∀ x∈ps,sp x.block=true)→DataW.TrodAll enc P W' 0 sp true ts vs ds ps
 | [],[],[],_,_,h,_,_=>h
 | t::ts,v::vs,d::ds,_,ht,⟨p,q,h1,h2,e⟩,hlt,hs =>
  ⟨p,q,trod_keep hl (ht t (List.mem_cons_self ..)).1 (ht t (List.mem_cons_self ..)).2 h1 hb (fun x hx=>hlt x (by rw [e];exact List.mem_append_left _ hx)) (fun x hx=>hs x (by rw [e];exact List.mem_append_left _ hx)),
   trodAll_keep hl hb (fun t ht'=>ht t (List.mem_cons_of_mem _ ht')) h2 (fun x hx=>hlt x (by rw [e];exact List.mem_append_right _ hx)) (fun x hx=>hs x (by rw [e];exact List.mem_append_right _ hx)),e⟩
end
theorem list_of {α:Type} {f:α→AV}:∀ {es:List AV},(∀ x∈es,∃ a,x=f a)→∃ l:List α,es=l.map f
 | [],_=>⟨[],rfl⟩
 | x::r,h=>by
  obtain ⟨a,rfl⟩:=h x (List.mem_cons_self ..)
  obtain ⟨l,rfl⟩:=list_of fun y hy=>h y (List.mem_cons_of_mem _ hy)
  exact ⟨a::l,rfl⟩
end Go.Ab
namespace Go.Ab
open Go.Proofs
set_option linter.unusedSimpArgs false
set_option linter.unusedVariables false
set_option maxRecDepth 100000
variable {H:Heap}
abbrev I (n:Int):AV:=.int .i64 n
theorem w64 {n:Int} (h1 : -9223372036854775808≤n) (h2:n<9223372036854775808):IntKind.i64.wrap n=n:=by
 simp only [IntKind.wrap,IntKind.bits,IntKind.signed]
 have e:(2:Int)^64=18446744073709551616:=by decide
 have e':(2:Int)^(64-1)=9223372036854775808:=by decide
 simp only [Bool.true_and,decide_eq_true_eq,e,e']
 split<;>omega
theorem i64ok {n:Int} (h : -9223372036854775808≤n∧n<9223372036854775808):IntKind.i64.wrap n=n:=w64 h.1 h.2
theorem ltT {a b:Int} (h:a<b):(a<b)=True:=eq_true h
theorem ltF {a b:Int} (h:¬ a<b):(a<b)=False:=eq_false h
theorem leT {a b:Int} (h:a≤b):(a≤b)=True:=eq_true h
theorem SlOk.fI {v:AV} {xs:List Int} (h:SlOk H 1 v (xs.map I)) :
  (∀ (G:Heap) (te:Ty) (k:Int),te.size=1→(0≤k∧k<xs.length)→idxAddr (H++G) te v k=some (elA v k 0)) ∧ 
  (∀ (te:Ty) (k:Int),te.size=1→(0≤k∧k<xs.length)→idxAddr H te v k=some (elA v k 0)) ∧ 
  (∀ (G:Heap) (te:Ty) (k:Int),(0≤k∧k<xs.length)→evLoad (H++G) te (elA v k 0)=zAy [I (xs.getD k.toNat 0)] 0 te) ∧
  (∀ (te:Ty) (k:Int),(0≤k∧k<xs.length)→evLoad H te (elA v k 0)=zAy [I (xs.getD k.toNat 0)] 0 te):=by
 have key:∀ k:Int,(0≤k∧k<xs.length)→(xs.map I)[k.toNat]? = some (I (xs.getD k.toNat 0)):=by
  intro k hk
  have:k.toNat<xs.length:=by omega
  simp [this]
 refine ⟨fun G te k hs hk=>?_,fun te k hs hk=>?_,fun G te k hk=>?_,fun te k hk=>?_⟩
 ·exact (h.at hk.1 (key k hk)).2.2.2.1 G te hs
 ·exact (h.at hk.1 (key k hk)).1 te hs
 ·rw [(h.at hk.1 (key k hk)).2.2.2.2 G 0 te];rfl
 ·rw [(h.at hk.1 (key k hk)).2.1 0 te];rfl
attribute [go_sem] i64ok Int.toNat_natCast Nat.mul_one List.length_map decide_true decide_false Bool.true_and Bool.and_true Bool.false_and Bool.and_false Bool.true_or Bool.or_true Bool.false_or Bool.or_false Bool.not_true Bool.not_false Bool.not_not Option.isSome_none Option.isSome_some List.append_eq
end Go.Ab
namespace Go.Ab
set_option linter.unusedSimpArgs false
set_option linter.unusedVariables false
def anyF (f:Nat→Bool):Nat→Nat→Bool
 | _,0=>false
 | j,q+1=>f j||anyF f (j+1) q
def findF {α:Type} (f:Nat→Option α):Nat→Nat→Option α
 | _,0=>none
 | j,q+1=>match f j with
  | some x=>some x
  | none=>findF f (j+1) q
def foldF {β:Type} (g:β→Nat→β):β→Nat→Nat→β
 | b,_,0=>b
 | b,j,q+1=>foldF g (g b j) (j+1) q
end Go.Ab
namespace Go.Ab
open Go.Proofs
set_option linter.unusedSimpArgs false
set_option linter.unusedVariables false
set_option maxRecDepth 100000
variable {H:Heap}
abbrev U (n:Nat):AV:=.int .u64 (n:Int)
theorem wrapU {n:Nat} (h:n<18446744073709551616):IntKind.u64.wrap (n:Int)=n:=by
 simp only [IntKind.wrap,IntKind.bits,IntKind.signed]
 have e:(2:Int)^64=18446744073709551616:=by decide
 simp only [e,Bool.false_and]
 simp
 omega
theorem ofIntN {n:Nat} (hn:n<2^63):(BitVec.ofInt 64 (n:Int)).toNat=n:=by
 rw [BitVec.ofInt_natCast,BitVec.toNat_ofNat,Nat.mod_eq_of_lt (by omega)]
theorem bitsOr {a b:Nat} (ha:a<2^63) (hb:b<2^63):bitsOp .or .u64 (a:Int) (b:Int)=some ((a ||| b:Nat):Int):=by
 have h:=Nat.or_lt_two_pow ha hb
 show some (IntKind.u64.wrap (((BitVec.ofInt 64 (a:Int) ||| BitVec.ofInt 64 (b:Int)):BitVec 64).toNat:Int))=_
 rw [BitVec.toNat_or,ofIntN ha,ofIntN hb,wrapU (by omega)]
theorem bitsAnd {a b:Nat} (ha:a<2^63) (hb:b<2^63):bitsOp .and .u64 (a:Int) (b:Int)=some ((a &&& b:Nat):Int):=by
 have h:a &&& b≤a:=Nat.and_le_left
 show some (IntKind.u64.wrap (((BitVec.ofInt 64 (a:Int) &&& BitVec.ofInt 64 (b:Int)):BitVec 64).toNat:Int))=_
 rw [BitVec.toNat_and,ofIntN ha,ofIntN hb,wrapU (by omega)]
theorem bitsAndI {a b:Nat} (ha:a<2^63) (hb:b<2^63):bitsOp .and .i64 (a:Int) (b:Int)=some ((a &&& b:Nat):Int):=by
 have h:a &&& b≤a:=Nat.and_le_left
 show some (IntKind.i64.wrap (((BitVec.ofInt 64 (a:Int) &&& BitVec.ofInt 64 (b:Int)):BitVec 64).toNat:Int))=_
 rw [BitVec.toNat_and,ofIntN ha,ofIntN hb,w64 (by omega) (by omega)]
def diffN (a b:Nat):Nat:=a ^^^ (a &&& b)
theorem two_pow_lt {k n:Nat} (h:k<n):2^k<2^n:=Nat.pow_lt_pow_right (by omega) h
theorem shlU {k:Nat} (hk:k≤60):IntKind.u64.wrap (1*2^(min k 64))=((2^k:Nat):Int):=by
 have h:=two_pow_lt (show k<61 by omega)
 rw [Nat.min_eq_left (by omega),Int.one_mul,show (2:Int)^k=((2^k:Nat):Int) by rw [Int.natCast_pow];rfl]
 exact wrapU (by omega)
theorem fdivN (x k:Nat):(x:Int).fdiv (k:Int)=((x/k:Nat):Int):=by rw [Int.fdiv_eq_ediv_of_nonneg _ (Int.natCast_nonneg _)];rfl
def maskN (f:Nat→Bool):Nat→Nat
 | 0=>0
 | n+1=>maskN f n ||| (if f n then 2^n else 0)
end Go.Ab
namespace Go.Ab
open Go.Proofs
set_option linter.unusedSimpArgs false
set_option linter.unusedVariables false
set_option maxRecDepth 100000
set_option maxHeartbeats 2000000
variable {H:Heap}
def wi (n lo hi:Int):Bool:=decide (lo≤n)&&decide (n≤hi)
theorem SlOk.fF {α:Type} {f:α→AV} {d:α} {sz:Nat} {v:AV} {xs:List α} (h:SlOk H sz v (xs.map f)) :
  (∀ (G:Heap) (te:Ty) (k:Int),te.size=sz→(0≤k∧k<xs.length)→idxAddr (H++G) te v k=some (elA v k 0)) ∧
  (∀ (te:Ty) (k:Int),te.size=sz→(0≤k∧k<xs.length)→idxAddr H te v k=some (elA v k 0)) ∧
  (∀ (G:Heap) (te:Ty) (k:Int) (off:Nat),(0≤k∧k<xs.length)→evLoad (H++G) te (elA v k off)=zAy (f (xs.getD k.toNat d)).cells off te) ∧
  (∀ (te:Ty) (k:Int) (off:Nat),(0≤k∧k<xs.length)→evLoad H te (elA v k off)=zAy (f (xs.getD k.toNat d)).cells off te) ∧
  (∀ (k:Int) (off o:Nat),addOff (elA v k off) o=some (elA v k (off+o))):=by
 have key:∀ k:Int,(0≤k∧k<xs.length)→(xs.map f)[k.toNat]? = some (f (xs.getD k.toNat d)):=by
  intro k hk
  have:k.toNat<xs.length:=by omega
  simp [this]
 refine ⟨fun G te k hs hk=>?_,fun te k hs hk=>?_,fun G te k off hk=>?_,fun te k off hk=>?_,fun k off o=>addOff_elA h⟩
 ·exact (h.at hk.1 (key k hk)).2.2.2.1 G te hs
 ·exact (h.at hk.1 (key k hk)).1 te hs
 ·rw [(h.at hk.1 (key k hk)).2.2.2.2 G off te]
 ·rw [(h.at hk.1 (key k hk)).2.1 off te]
theorem SlOk.seal {sz:Nat} {v:AV} {xs:List AV} (h:SlOk H sz v xs) (A:Heap):sealG A H.length v=v:=by
 have hl:=h.lt0
 obtain ⟨h1,_⟩:=h
 cases v<;>simp only at h1
 ·rfl
 ·simp only [AV.lt,decide_eq_true_eq] at hl
  simp only [sealG,if_pos hl]
theorem slI (b:Bool) (xs:List Int):SlOk H 1 (.sl b (xs.map I)) (xs.map I):=⟨rfl,fun x hx=>by
 obtain ⟨i,_,rfl⟩:=List.mem_map.1 hx;rfl⟩
def spA (p:Int×Int):AV:=.agg [I p.1,I p.2]
theorem spLt (l:List (Int×Int)) (N:Nat):ltL N (l.map spA)=true:=ltL_map (fun _=>rfl) l
theorem slS (b:Bool) (xs:List (Int×Int)):SlOk H 2 (.sl b (xs.map spA)) (xs.map spA):=⟨rfl,fun x hx=>by
 obtain ⟨i,_,rfl⟩:=List.mem_map.1 hx;rfl⟩
theorem SlOk.old {sz:Nat} {v:AV} {xs:List AV} (h:SlOk H sz v xs) (A B:Heap):pairM (some (H++A,H++B)) (gslOf v)=true:=by
 rcases h.obj with hg | ⟨l,hg,hlt,hget⟩
 ·rw [hg];rfl
 ·rw [hg,pairM_some]
  have hs:∀ l:List AV,zBd l l=true:=fun l=>by
   induction l with
   | nil=>rfl
   | cons x r ih=>simp [zBd,AV.same_refl,ih]
  simp only [sameAt,List.getElem?_append_left hlt,hget,AO.same,hs]
  simp
def popF:Nat→Nat→Nat
 | 0,_=>0
 | f+1,n=>n%2+popF f (n/2)
def pop (n:Nat):Nat:=popF 20 n
def M0:Nat:=6148914691236517205
def M1:Nat:=3689348814741910323
def M2:Nat:=1085102592571150095
def y1 (x:Nat):Nat:=(x/2 &&& M0)+(x &&& M0)
def y2 (x:Nat):Nat:=(y1 x/4 &&& M1)+(y1 x &&& M1)
def y3 (x:Nat):Nat:=(y2 x/16+y2 x) &&& M2
def y4 (x:Nat):Nat:=y3 x+y3 x/256
def y5 (x:Nat):Nat:=y4 x+y4 x/65536
def y6 (x:Nat):Nat:=y5 x+y5 x/4294967296
theorem y_bd:∀ x<1024,y1 x<1024∧y2 x<1024∧y3 x<1024∧y4 x<1024∧y5 x<1024∧y6 x<1024∧(y6 x &&& 127)=pop x:=by decide +kernel
theorem ones64 {x:Nat} (hx:x<1024):zA8 cfg0 zA0 false 97 [U x] H none=some ⟨.ret (I (pop x)),H,none⟩:=by
 obtain ⟨b1,b2,b3,b4,b5,b6,b7⟩:=y_bd x hx
 have f1:(x:Int).fdiv (2^min 1 64)=((x/2:Nat):Int):=fdivN x 2
 have f2:(y1 x:Int).fdiv (2^min 2 64)=((y1 x/4:Nat):Int):=fdivN (y1 x) 4
 have f3:(y2 x:Int).fdiv (2^min 4 64)=((y2 x/16:Nat):Int):=fdivN (y2 x) 16
 have f4:(y3 x:Int).fdiv (2^min 8 64)=((y3 x/256:Nat):Int):=fdivN (y3 x) 256
 have f5:(y4 x:Int).fdiv (2^min 16 64)=((y4 x/65536:Nat):Int):=fdivN (y4 x) 65536
 have f6:(y5 x:Int).fdiv (2^min 32 64)=((y5 x/4294967296:Nat):Int):=fdivN (y5 x) 4294967296
 have g1:bitsOp .and .u64 ((x/2:Nat):Int) 6148914691236517205=some ((x/2 &&& M0:Nat):Int):=bitsAnd (b:=M0) (by omega) (by decide)
 have g2:bitsOp .and .u64 (x:Int) 6148914691236517205=some ((x &&& M0:Nat):Int):=bitsAnd (b:=M0) (by omega) (by decide)
 have g3:bitsOp .and .u64 ((y1 x/4:Nat):Int) 3689348814741910323=some ((y1 x/4 &&& M1:Nat):Int):=bitsAnd (b:=M1) (by omega) (by decide)
 have g4:bitsOp .and .u64 (y1 x:Int) 3689348814741910323=some ((y1 x &&& M1:Nat):Int):=bitsAnd (b:=M1) (by omega) (by decide)
 have g5:bitsOp .and .u64 ((y2 x/16+y2 x:Nat):Int) 1085102592571150095=some (y3 x:Int):=bitsAnd (b:=M2) (by omega) (by decide)
 have g6:bitsOp .and .i64 (y6 x:Int) 127=some (pop x:Int):=by rw [← b7];exact bitsAndI (b:=127) (by omega) (by decide)
 have k1:IntKind.u64.wrap (((x/2 &&& M0:Nat):Int)+((x &&& M0:Nat):Int))=(y1 x:Int):=wrapU (n:=y1 x) (by omega)
 have k2:IntKind.u64.wrap (((y1 x/4 &&& M1:Nat):Int)+((y1 x &&& M1:Nat):Int))=(y2 x:Int):=wrapU (n:=y2 x) (by omega)
 have k3:IntKind.u64.wrap (((y2 x/16:Nat):Int)+(y2 x:Int))=((y2 x/16+y2 x:Nat):Int):=wrapU (n:=y2 x/16+y2 x) (by omega)
 have k4:IntKind.u64.wrap ((y3 x:Int)+((y3 x/256:Nat):Int))=(y4 x:Int):=wrapU (n:=y4 x) (by omega)
 have k5:IntKind.u64.wrap ((y4 x:Int)+((y4 x/65536:Nat):Int))=(y5 x:Int):=wrapU (n:=y5 x) (by omega)
 have k6:IntKind.u64.wrap ((y5 x:Int)+((y5 x/4294967296:Nat):Int))=(y6 x:Int):=wrapU (n:=y6 x) (by omega)
 have k7:IntKind.i64.wrap (y6 x:Int)=(y6 x:Int):=w64 (by omega) (by omega)
 refine (zA1 fn97 rfl (by simp [Tryz.f97])).trans ?_
 simp -implicitDefEqProofs (maxSteps:=1000000) (disch:=first|rfl|omega|assumption) only [go_sem,f1,f2,f3,f4,f5,f6,g1,g2,g3,g4,g5,g6,k1,k2,k3,k4,k5,k6,k7]
theorem ones {x:Nat} (hx:x<1024):zA8 cfg0 zA0 false 95 [U x] H none=some ⟨.ret (I (pop x)),H,none⟩:=by
 have h1:=fun G:Heap=>ones64 (H:=G) hx
 have h2:IntKind.u64.wrap (x:Int)=x:=wrapU (by omega)
 refine (zA1 fn95 rfl (by simp [Tryz.f95])).trans ?_
 simp -implicitDefEqProofs (maxSteps:=1000000) (disch:=first|rfl|omega|assumption) only [go_sem,h1,h2]
end Go.Ab
