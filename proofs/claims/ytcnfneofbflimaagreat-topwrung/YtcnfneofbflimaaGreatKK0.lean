/- The tables of the evaluator are the program's: row by row. -/
import Derived.Test.YtcnfneofbflimaaGreatT0
import Derived.Test.YtcnfneofbflimaaGreatD9
import Derived.Test.YtcnfneofbflimaaGreatE2
import Derived.ProofKit
import Derived.Carry
import Derived.WideShapes
import Derived.OpenShut
namespace Go.Ab
set_option linter.unusedSimpArgs false
set_option linter.unusedVariables false
theorem getAt_mem {α:Type}:∀ {l:List (Nat×α)} {k:Nat} {y:α},zA8 l k=some y→(k,y)∈l
 | (i,x)::r,k,y,h=>by
  simp only [zA8] at h
  by_cases e:i=k
  ·simp only [e,if_pos,Option.some.injEq] at h;subst e;subst h;exact List.mem_cons_self ..
  ·rw [if_neg e] at h;exact List.mem_cons_of_mem _ (getAt_mem h)
theorem tyr1:tyOf zA2 1=zA8 tyL 1:=by kernel_rfl
theorem tyr2:tyOf zA2 2=zA8 tyL 2:=by kernel_rfl
theorem tyr3:tyOf zA2 3=zA8 tyL 3:=by kernel_rfl
theorem tyr4:tyOf zA2 4=zA8 tyL 4:=by kernel_rfl
theorem tyr5:tyOf zA2 5=zA8 tyL 5:=by kernel_rfl
theorem tyr6:tyOf zA2 6=zA8 tyL 6:=by kernel_rfl
theorem tyr8:tyOf zA2 8=zA8 tyL 8:=by kernel_rfl
theorem tyr12:tyOf zA2 12=zA8 tyL 12:=by kernel_rfl
theorem tyr15:tyOf zA2 15=zA8 tyL 15:=by kernel_rfl
theorem tyr16:tyOf zA2 16=zA8 tyL 16:=by kernel_rfl
theorem tyr17:tyOf zA2 17=zA8 tyL 17:=by kernel_rfl
theorem tyr19:tyOf zA2 19=zA8 tyL 19:=by kernel_rfl
theorem tyr20:tyOf zA2 20=zA8 tyL 20:=by kernel_rfl
theorem tyr22:tyOf zA2 22=zA8 tyL 22:=by kernel_rfl
theorem tyr23:tyOf zA2 23=zA8 tyL 23:=by kernel_rfl
theorem tyr25:tyOf zA2 25=zA8 tyL 25:=by kernel_rfl
theorem tyr26:tyOf zA2 26=zA8 tyL 26:=by kernel_rfl
theorem tyr27:tyOf zA2 27=zA8 tyL 27:=by kernel_rfl
theorem tyr31:tyOf zA2 31=zA8 tyL 31:=by kernel_rfl
theorem tyr33:tyOf zA2 33=zA8 tyL 33:=by kernel_rfl
theorem tyr35:tyOf zA2 35=zA8 tyL 35:=by kernel_rfl
theorem tyr37:tyOf zA2 37=zA8 tyL 37:=by kernel_rfl
theorem tyr38:tyOf zA2 38=zA8 tyL 38:=by kernel_rfl
theorem tyr40:tyOf zA2 40=zA8 tyL 40:=by kernel_rfl
theorem tyr42:tyOf zA2 42=zA8 tyL 42:=by kernel_rfl
theorem tyr51:tyOf zA2 51=zA8 tyL 51:=by kernel_rfl
theorem tyr57:tyOf zA2 57=zA8 tyL 57:=by kernel_rfl
theorem tyr60:tyOf zA2 60=zA8 tyL 60:=by kernel_rfl
theorem tyr63:tyOf zA2 63=zA8 tyL 63:=by kernel_rfl
theorem tyr66:tyOf zA2 66=zA8 tyL 66:=by kernel_rfl
theorem tyr70:tyOf zA2 70=zA8 tyL 70:=by kernel_rfl
theorem tyr71:tyOf zA2 71=zA8 tyL 71:=by kernel_rfl
theorem tyr72:tyOf zA2 72=zA8 tyL 72:=by kernel_rfl
theorem tyr74:tyOf zA2 74=zA8 tyL 74:=by kernel_rfl
theorem tyr76:tyOf zA2 76=zA8 tyL 76:=by kernel_rfl
theorem tyr81:tyOf zA2 81=zA8 tyL 81:=by kernel_rfl
theorem tyr84:tyOf zA2 84=zA8 tyL 84:=by kernel_rfl
theorem tyr87:tyOf zA2 87=zA8 tyL 87:=by kernel_rfl
theorem tyr89:tyOf zA2 89=zA8 tyL 89:=by kernel_rfl
theorem tyr91:tyOf zA2 91=zA8 tyL 91:=by kernel_rfl
theorem tyr92:tyOf zA2 92=zA8 tyL 92:=by kernel_rfl
theorem tyr96:tyOf zA2 96=zA8 tyL 96:=by kernel_rfl
theorem tyr98:tyOf zA2 98=zA8 tyL 98:=by kernel_rfl
theorem tyr102:tyOf zA2 102=zA8 tyL 102:=by kernel_rfl
theorem tyr106:tyOf zA2 106=zA8 tyL 106:=by kernel_rfl
theorem tyr109:tyOf zA2 109=zA8 tyL 109:=by kernel_rfl
theorem tyr112:tyOf zA2 112=zA8 tyL 112:=by kernel_rfl
theorem tyr114:tyOf zA2 114=zA8 tyL 114:=by kernel_rfl
theorem tyr115:tyOf zA2 115=zA8 tyL 115:=by kernel_rfl
theorem tyr116:tyOf zA2 116=zA8 tyL 116:=by kernel_rfl
theorem tyr122:tyOf zA2 122=zA8 tyL 122:=by kernel_rfl
theorem tyr123:tyOf zA2 123=zA8 tyL 123:=by kernel_rfl
theorem tyr125:tyOf zA2 125=zA8 tyL 125:=by kernel_rfl
theorem tyr127:tyOf zA2 127=zA8 tyL 127:=by kernel_rfl
theorem tyr128:tyOf zA2 128=zA8 tyL 128:=by kernel_rfl
theorem tyr130:tyOf zA2 130=zA8 tyL 130:=by kernel_rfl
theorem tyr132:tyOf zA2 132=zA8 tyL 132:=by kernel_rfl
theorem tyr135:tyOf zA2 135=zA8 tyL 135:=by kernel_rfl
theorem tyr137:tyOf zA2 137=zA8 tyL 137:=by kernel_rfl
theorem tyr139:tyOf zA2 139=zA8 tyL 139:=by kernel_rfl
theorem tyr142:tyOf zA2 142=zA8 tyL 142:=by kernel_rfl
theorem tyr144:tyOf zA2 144=zA8 tyL 144:=by kernel_rfl
theorem tyr145:tyOf zA2 145=zA8 tyL 145:=by kernel_rfl
theorem tyr146:tyOf zA2 146=zA8 tyL 146:=by kernel_rfl
theorem tyr147:tyOf zA2 147=zA8 tyL 147:=by kernel_rfl
theorem tyr152:tyOf zA2 152=zA8 tyL 152:=by kernel_rfl
theorem tyr154:tyOf zA2 154=zA8 tyL 154:=by kernel_rfl
theorem tyr156:tyOf zA2 156=zA8 tyL 156:=by kernel_rfl
theorem tyr158:tyOf zA2 158=zA8 tyL 158:=by kernel_rfl
theorem tyr160:tyOf zA2 160=zA8 tyL 160:=by kernel_rfl
theorem tyr161:tyOf zA2 161=zA8 tyL 161:=by kernel_rfl
theorem tyr163:tyOf zA2 163=zA8 tyL 163:=by kernel_rfl
theorem tyr165:tyOf zA2 165=zA8 tyL 165:=by kernel_rfl
theorem tyr166:tyOf zA2 166=zA8 tyL 166:=by kernel_rfl
theorem tyr168:tyOf zA2 168=zA8 tyL 168:=by kernel_rfl
theorem tyr171:tyOf zA2 171=zA8 tyL 171:=by kernel_rfl
theorem tyr174:tyOf zA2 174=zA8 tyL 174:=by kernel_rfl
theorem tyr175:tyOf zA2 175=zA8 tyL 175:=by kernel_rfl
theorem tyr176:tyOf zA2 176=zA8 tyL 176:=by kernel_rfl
theorem tyr182:tyOf zA2 182=zA8 tyL 182:=by kernel_rfl
theorem tyr186:tyOf zA2 186=zA8 tyL 186:=by kernel_rfl
theorem tyr187:tyOf zA2 187=zA8 tyL 187:=by kernel_rfl
theorem tyr188:tyOf zA2 188=zA8 tyL 188:=by kernel_rfl
theorem tyr191:tyOf zA2 191=zA8 tyL 191:=by kernel_rfl
theorem tyr193:tyOf zA2 193=zA8 tyL 193:=by kernel_rfl
theorem tyr197:tyOf zA2 197=zA8 tyL 197:=by kernel_rfl
theorem tyr198:tyOf zA2 198=zA8 tyL 198:=by kernel_rfl
theorem tyr202:tyOf zA2 202=zA8 tyL 202:=by kernel_rfl
theorem tyr204:tyOf zA2 204=zA8 tyL 204:=by kernel_rfl
theorem tyr206:tyOf zA2 206=zA8 tyL 206:=by kernel_rfl
theorem tyr207:tyOf zA2 207=zA8 tyL 207:=by kernel_rfl
theorem tyr210:tyOf zA2 210=zA8 tyL 210:=by kernel_rfl
theorem tyr211:tyOf zA2 211=zA8 tyL 211:=by kernel_rfl
theorem tyr212:tyOf zA2 212=zA8 tyL 212:=by kernel_rfl
theorem tyr213:tyOf zA2 213=zA8 tyL 213:=by kernel_rfl
theorem tyr221:tyOf zA2 221=zA8 tyL 221:=by kernel_rfl
theorem ty_rows:∀ k∈[1,2,3,4,5,6,8,12,15,16,17,19,20,22,23,25,26,27,31,33,35,37,38,40,42,51,57,60,63,66,70,71,72,74,76,81,84,87,89,91,92,96,98,102,106,109,112,114,115,116,122,123,125,127,128,130,132,135,137,139,142,144,145,146,147,152,154,156,158,160,161,163,165,166,168,171,174,175,176,182,186,187,188,191,193,197,198,202,204,206,207,210,211,212,213,221],tyOf zA2 k=zA8 tyL k:=by
 simp only [List.forall_mem_cons]
 exact ⟨tyr1,tyr2,tyr3,tyr4,tyr5,tyr6,tyr8,tyr12,tyr15,tyr16,tyr17,tyr19,tyr20,tyr22,tyr23,tyr25,tyr26,tyr27,tyr31,tyr33,tyr35,tyr37,tyr38,tyr40,tyr42,tyr51,tyr57,tyr60,tyr63,tyr66,tyr70,tyr71,tyr72,tyr74,tyr76,tyr81,tyr84,tyr87,tyr89,tyr91,tyr92,tyr96,tyr98,tyr102,tyr106,tyr109,tyr112,tyr114,tyr115,tyr116,tyr122,tyr123,tyr125,tyr127,tyr128,tyr130,tyr132,tyr135,tyr137,tyr139,tyr142,tyr144,tyr145,tyr146,tyr147,tyr152,tyr154,tyr156,tyr158,tyr160,tyr161,tyr163,tyr165,tyr166,tyr168,tyr171,tyr174,tyr175,tyr176,tyr182,tyr186,tyr187,tyr188,tyr191,tyr193,tyr197,tyr198,tyr202,tyr204,tyr206,tyr207,tyr210,tyr211,tyr212,tyr213,tyr221,List.forall_mem_nil _⟩
theorem eqr2:∀ st ks,zA8 eqL 2=some (st,ks)→zAg zA2 8 2=some ks∧isStr zA2 2=st∧zA2.eqGuardType zA2.depth 2=false:=fun _ _ h=>by
 injection h with h;injection h with h1 h2;subst h1;subst h2
 exact ⟨by kernel_rfl,by kernel_rfl,by kernel_rfl⟩
theorem eqr3:∀ st ks,zA8 eqL 3=some (st,ks)→zAg zA2 8 3=some ks∧isStr zA2 3=st∧zA2.eqGuardType zA2.depth 3=false:=fun _ _ h=>by
 injection h with h;injection h with h1 h2;subst h1;subst h2
 exact ⟨by kernel_rfl,by kernel_rfl,by kernel_rfl⟩
theorem eqr4:∀ st ks,zA8 eqL 4=some (st,ks)→zAg zA2 8 4=some ks∧isStr zA2 4=st∧zA2.eqGuardType zA2.depth 4=false:=fun _ _ h=>by
 injection h with h;injection h with h1 h2;subst h1;subst h2
 exact ⟨by kernel_rfl,by kernel_rfl,by kernel_rfl⟩
theorem eqr5:∀ st ks,zA8 eqL 5=some (st,ks)→zAg zA2 8 5=some ks∧isStr zA2 5=st∧zA2.eqGuardType zA2.depth 5=false:=fun _ _ h=>by
 injection h with h;injection h with h1 h2;subst h1;subst h2
 exact ⟨by kernel_rfl,by kernel_rfl,by kernel_rfl⟩
theorem eqr6:∀ st ks,zA8 eqL 6=some (st,ks)→zAg zA2 8 6=some ks∧isStr zA2 6=st∧zA2.eqGuardType zA2.depth 6=false:=fun _ _ h=>by
 injection h with h;injection h with h1 h2;subst h1;subst h2
 exact ⟨by kernel_rfl,by kernel_rfl,by kernel_rfl⟩
theorem eqr8:∀ st ks,zA8 eqL 8=some (st,ks)→zAg zA2 8 8=some ks∧isStr zA2 8=st∧zA2.eqGuardType zA2.depth 8=false:=fun _ _ h=>by
 injection h with h;injection h with h1 h2;subst h1;subst h2
 exact ⟨by kernel_rfl,by kernel_rfl,by kernel_rfl⟩
theorem eqr12:∀ st ks,zA8 eqL 12=some (st,ks)→zAg zA2 8 12=some ks∧isStr zA2 12=st∧zA2.eqGuardType zA2.depth 12=false:=fun _ _ h=>by
 injection h with h;injection h with h1 h2;subst h1;subst h2
 exact ⟨by kernel_rfl,by kernel_rfl,by kernel_rfl⟩
theorem eqr26:∀ st ks,zA8 eqL 26=some (st,ks)→zAg zA2 8 26=some ks∧isStr zA2 26=st∧zA2.eqGuardType zA2.depth 26=false:=fun _ _ h=>by
 injection h with h;injection h with h1 h2;subst h1;subst h2
 exact ⟨by kernel_rfl,by kernel_rfl,by kernel_rfl⟩
theorem eqr31:∀ st ks,zA8 eqL 31=some (st,ks)→zAg zA2 8 31=some ks∧isStr zA2 31=st∧zA2.eqGuardType zA2.depth 31=false:=fun _ _ h=>by
 injection h with h;injection h with h1 h2;subst h1;subst h2
 exact ⟨by kernel_rfl,by kernel_rfl,by kernel_rfl⟩
theorem eqr37:∀ st ks,zA8 eqL 37=some (st,ks)→zAg zA2 8 37=some ks∧isStr zA2 37=st∧zA2.eqGuardType zA2.depth 37=false:=fun _ _ h=>by
 injection h with h;injection h with h1 h2;subst h1;subst h2
 exact ⟨by kernel_rfl,by kernel_rfl,by kernel_rfl⟩
theorem eqr38:∀ st ks,zA8 eqL 38=some (st,ks)→zAg zA2 8 38=some ks∧isStr zA2 38=st∧zA2.eqGuardType zA2.depth 38=false:=fun _ _ h=>by
 injection h with h;injection h with h1 h2;subst h1;subst h2
 exact ⟨by kernel_rfl,by kernel_rfl,by kernel_rfl⟩
theorem eqr40:∀ st ks,zA8 eqL 40=some (st,ks)→zAg zA2 8 40=some ks∧isStr zA2 40=st∧zA2.eqGuardType zA2.depth 40=false:=fun _ _ h=>by
 injection h with h;injection h with h1 h2;subst h1;subst h2
 exact ⟨by kernel_rfl,by kernel_rfl,by kernel_rfl⟩
theorem eqr42:∀ st ks,zA8 eqL 42=some (st,ks)→zAg zA2 8 42=some ks∧isStr zA2 42=st∧zA2.eqGuardType zA2.depth 42=false:=fun _ _ h=>by
 injection h with h;injection h with h1 h2;subst h1;subst h2
 exact ⟨by kernel_rfl,by kernel_rfl,by kernel_rfl⟩
theorem eqr60:∀ st ks,zA8 eqL 60=some (st,ks)→zAg zA2 8 60=some ks∧isStr zA2 60=st∧zA2.eqGuardType zA2.depth 60=false:=fun _ _ h=>by
 injection h with h;injection h with h1 h2;subst h1;subst h2
 exact ⟨by kernel_rfl,by kernel_rfl,by kernel_rfl⟩
theorem eqr66:∀ st ks,zA8 eqL 66=some (st,ks)→zAg zA2 8 66=some ks∧isStr zA2 66=st∧zA2.eqGuardType zA2.depth 66=false:=fun _ _ h=>by
 injection h with h;injection h with h1 h2;subst h1;subst h2
 exact ⟨by kernel_rfl,by kernel_rfl,by kernel_rfl⟩
theorem eqr71:∀ st ks,zA8 eqL 71=some (st,ks)→zAg zA2 8 71=some ks∧isStr zA2 71=st∧zA2.eqGuardType zA2.depth 71=false:=fun _ _ h=>by
 injection h with h;injection h with h1 h2;subst h1;subst h2
 exact ⟨by kernel_rfl,by kernel_rfl,by kernel_rfl⟩
theorem eqr72:∀ st ks,zA8 eqL 72=some (st,ks)→zAg zA2 8 72=some ks∧isStr zA2 72=st∧zA2.eqGuardType zA2.depth 72=false:=fun _ _ h=>by
 injection h with h;injection h with h1 h2;subst h1;subst h2
 exact ⟨by kernel_rfl,by kernel_rfl,by kernel_rfl⟩
theorem eqr74:∀ st ks,zA8 eqL 74=some (st,ks)→zAg zA2 8 74=some ks∧isStr zA2 74=st∧zA2.eqGuardType zA2.depth 74=false:=fun _ _ h=>by
 injection h with h;injection h with h1 h2;subst h1;subst h2
 exact ⟨by kernel_rfl,by kernel_rfl,by kernel_rfl⟩
theorem eqr81:∀ st ks,zA8 eqL 81=some (st,ks)→zAg zA2 8 81=some ks∧isStr zA2 81=st∧zA2.eqGuardType zA2.depth 81=false:=fun _ _ h=>by
 injection h with h;injection h with h1 h2;subst h1;subst h2
 exact ⟨by kernel_rfl,by kernel_rfl,by kernel_rfl⟩
theorem eqr84:∀ st ks,zA8 eqL 84=some (st,ks)→zAg zA2 8 84=some ks∧isStr zA2 84=st∧zA2.eqGuardType zA2.depth 84=false:=fun _ _ h=>by
 injection h with h;injection h with h1 h2;subst h1;subst h2
 exact ⟨by kernel_rfl,by kernel_rfl,by kernel_rfl⟩
theorem eqr96:∀ st ks,zA8 eqL 96=some (st,ks)→zAg zA2 8 96=some ks∧isStr zA2 96=st∧zA2.eqGuardType zA2.depth 96=false:=fun _ _ h=>by
 injection h with h;injection h with h1 h2;subst h1;subst h2
 exact ⟨by kernel_rfl,by kernel_rfl,by kernel_rfl⟩
theorem eqr98:∀ st ks,zA8 eqL 98=some (st,ks)→zAg zA2 8 98=some ks∧isStr zA2 98=st∧zA2.eqGuardType zA2.depth 98=false:=fun _ _ h=>by
 injection h with h;injection h with h1 h2;subst h1;subst h2
 exact ⟨by kernel_rfl,by kernel_rfl,by kernel_rfl⟩
theorem eqr112:∀ st ks,zA8 eqL 112=some (st,ks)→zAg zA2 8 112=some ks∧isStr zA2 112=st∧zA2.eqGuardType zA2.depth 112=false:=fun _ _ h=>by
 injection h with h;injection h with h1 h2;subst h1;subst h2
 exact ⟨by kernel_rfl,by kernel_rfl,by kernel_rfl⟩
theorem eqr114:∀ st ks,zA8 eqL 114=some (st,ks)→zAg zA2 8 114=some ks∧isStr zA2 114=st∧zA2.eqGuardType zA2.depth 114=false:=fun _ _ h=>by
 injection h with h;injection h with h1 h2;subst h1;subst h2
 exact ⟨by kernel_rfl,by kernel_rfl,by kernel_rfl⟩
theorem eqr125:∀ st ks,zA8 eqL 125=some (st,ks)→zAg zA2 8 125=some ks∧isStr zA2 125=st∧zA2.eqGuardType zA2.depth 125=false:=fun _ _ h=>by
 injection h with h;injection h with h1 h2;subst h1;subst h2
 exact ⟨by kernel_rfl,by kernel_rfl,by kernel_rfl⟩
theorem eqr139:∀ st ks,zA8 eqL 139=some (st,ks)→zAg zA2 8 139=some ks∧isStr zA2 139=st∧zA2.eqGuardType zA2.depth 139=false:=fun _ _ h=>by
 injection h with h;injection h with h1 h2;subst h1;subst h2
 exact ⟨by kernel_rfl,by kernel_rfl,by kernel_rfl⟩
theorem eqr152:∀ st ks,zA8 eqL 152=some (st,ks)→zAg zA2 8 152=some ks∧isStr zA2 152=st∧zA2.eqGuardType zA2.depth 152=false:=fun _ _ h=>by
 injection h with h;injection h with h1 h2;subst h1;subst h2
 exact ⟨by kernel_rfl,by kernel_rfl,by kernel_rfl⟩
theorem eqr158:∀ st ks,zA8 eqL 158=some (st,ks)→zAg zA2 8 158=some ks∧isStr zA2 158=st∧zA2.eqGuardType zA2.depth 158=false:=fun _ _ h=>by
 injection h with h;injection h with h1 h2;subst h1;subst h2
 exact ⟨by kernel_rfl,by kernel_rfl,by kernel_rfl⟩
theorem eqr160:∀ st ks,zA8 eqL 160=some (st,ks)→zAg zA2 8 160=some ks∧isStr zA2 160=st∧zA2.eqGuardType zA2.depth 160=false:=fun _ _ h=>by
 injection h with h;injection h with h1 h2;subst h1;subst h2
 exact ⟨by kernel_rfl,by kernel_rfl,by kernel_rfl⟩
theorem eqr171:∀ st ks,zA8 eqL 171=some (st,ks)→zAg zA2 8 171=some ks∧isStr zA2 171=st∧zA2.eqGuardType zA2.depth 171=false:=fun _ _ h=>by
 injection h with h;injection h with h1 h2;subst h1;subst h2
 exact ⟨by kernel_rfl,by kernel_rfl,by kernel_rfl⟩
theorem eqr174:∀ st ks,zA8 eqL 174=some (st,ks)→zAg zA2 8 174=some ks∧isStr zA2 174=st∧zA2.eqGuardType zA2.depth 174=false:=fun _ _ h=>by
 injection h with h;injection h with h1 h2;subst h1;subst h2
 exact ⟨by kernel_rfl,by kernel_rfl,by kernel_rfl⟩
theorem eqr182:∀ st ks,zA8 eqL 182=some (st,ks)→zAg zA2 8 182=some ks∧isStr zA2 182=st∧zA2.eqGuardType zA2.depth 182=false:=fun _ _ h=>by
 injection h with h;injection h with h1 h2;subst h1;subst h2
 exact ⟨by kernel_rfl,by kernel_rfl,by kernel_rfl⟩
theorem eqr202:∀ st ks,zA8 eqL 202=some (st,ks)→zAg zA2 8 202=some ks∧isStr zA2 202=st∧zA2.eqGuardType zA2.depth 202=false:=fun _ _ h=>by
 injection h with h;injection h with h1 h2;subst h1;subst h2
 exact ⟨by kernel_rfl,by kernel_rfl,by kernel_rfl⟩
theorem eqr204:∀ st ks,zA8 eqL 204=some (st,ks)→zAg zA2 8 204=some ks∧isStr zA2 204=st∧zA2.eqGuardType zA2.depth 204=false:=fun _ _ h=>by
 injection h with h;injection h with h1 h2;subst h1;subst h2
 exact ⟨by kernel_rfl,by kernel_rfl,by kernel_rfl⟩
theorem eqr221:∀ st ks,zA8 eqL 221=some (st,ks)→zAg zA2 8 221=some ks∧isStr zA2 221=st∧zA2.eqGuardType zA2.depth 221=false:=fun _ _ h=>by
 injection h with h;injection h with h1 h2;subst h1;subst h2
 exact ⟨by kernel_rfl,by kernel_rfl,by kernel_rfl⟩
theorem eq_rows:∀ k∈[2,3,4,5,6,8,12,26,31,37,38,40,42,60,66,71,72,74,81,84,96,98,112,114,125,139,152,158,160,171,174,182,202,204,221],∀ st ks,zA8 eqL k=some (st,ks)→zAg zA2 8 k=some ks∧isStr zA2 k=st∧zA2.eqGuardType zA2.depth k=false:=by
 simp only [List.forall_mem_cons]
 exact ⟨eqr2,eqr3,eqr4,eqr5,eqr6,eqr8,eqr12,eqr26,eqr31,eqr37,eqr38,eqr40,eqr42,eqr60,eqr66,eqr71,eqr72,eqr74,eqr81,eqr84,eqr96,eqr98,eqr112,eqr114,eqr125,eqr139,eqr152,eqr158,eqr160,eqr171,eqr174,eqr182,eqr202,eqr204,eqr221,List.forall_mem_nil _⟩
set_option maxRecDepth 100000 in
theorem fn_rows:∀ x∈fnL,zA2.funcs[x.1]? = some x.2:=by
 simp only [fnL,List.forall_mem_cons]
 exact ⟨Go.Proofs.Tryz.func0,Go.Proofs.Tryz.func1,Go.Proofs.Tryz.func2,Go.Proofs.Tryz.func3,Go.Proofs.Tryz.func4,Go.Proofs.Tryz.func5,Go.Proofs.Tryz.func6,Go.Proofs.Tryz.func7,Go.Proofs.Tryz.func8,Go.Proofs.Tryz.func9,Go.Proofs.Tryz.func10,Go.Proofs.Tryz.func11,Go.Proofs.Tryz.func12,Go.Proofs.Tryz.func13,Go.Proofs.Tryz.func14,Go.Proofs.Tryz.func15,Go.Proofs.Tryz.func16,Go.Proofs.Tryz.func17,Go.Proofs.Tryz.func18,Go.Proofs.Tryz.func19,Go.Proofs.Tryz.func20,Go.Proofs.Tryz.func21,Go.Proofs.Tryz.func22,Go.Proofs.Tryz.func23,Go.Proofs.Tryz.func24,Go.Proofs.Tryz.func25,Go.Proofs.Tryz.func26,Go.Proofs.Tryz.func27,Go.Proofs.Tryz.func28,Go.Proofs.Tryz.func29,Go.Proofs.Tryz.func30,Go.Proofs.Tryz.func31,Go.Proofs.Tryz.func32,Go.Proofs.Tryz.func33,Go.Proofs.Tryz.func34,Go.Proofs.Tryz.func35,Go.Proofs.Tryz.func36,Go.Proofs.Tryz.func37,Go.Proofs.Tryz.func38,Go.Proofs.Tryz.func39,Go.Proofs.Tryz.func40,Go.Proofs.Tryz.func41,Go.Proofs.Tryz.func42,Go.Proofs.Tryz.func43,Go.Proofs.Tryz.func44,Go.Proofs.Tryz.func45,Go.Proofs.Tryz.func46,Go.Proofs.Tryz.func47,Go.Proofs.Tryz.func48,Go.Proofs.Tryz.func49,Go.Proofs.Tryz.func50,Go.Proofs.Tryz.func51,Go.Proofs.Tryz.func52,Go.Proofs.Tryz.func53,Go.Proofs.Tryz.func54,Go.Proofs.Tryz.func55,Go.Proofs.Tryz.func56,Go.Proofs.Tryz.func57,Go.Proofs.Tryz.func58,Go.Proofs.Tryz.func59,Go.Proofs.Tryz.func60,Go.Proofs.Tryz.func61,Go.Proofs.Tryz.func62,Go.Proofs.Tryz.func63,Go.Proofs.Tryz.func64,Go.Proofs.Tryz.func65,Go.Proofs.Tryz.func66,Go.Proofs.Tryz.func67,Go.Proofs.Tryz.func68,Go.Proofs.Tryz.func69,Go.Proofs.Tryz.func70,Go.Proofs.Tryz.func71,Go.Proofs.Tryz.func72,Go.Proofs.Tryz.func73,Go.Proofs.Tryz.func74,Go.Proofs.Tryz.func75,Go.Proofs.Tryz.func76,Go.Proofs.Tryz.func77,Go.Proofs.Tryz.func78,Go.Proofs.Tryz.func79,Go.Proofs.Tryz.func80,Go.Proofs.Tryz.func81,Go.Proofs.Tryz.func82,Go.Proofs.Tryz.func83,Go.Proofs.Tryz.func84,Go.Proofs.Tryz.func85,Go.Proofs.Tryz.func86,Go.Proofs.Tryz.func87,Go.Proofs.Tryz.func88,Go.Proofs.Tryz.func89,Go.Proofs.Tryz.func90,Go.Proofs.Tryz.func91,Go.Proofs.Tryz.func92,Go.Proofs.Tryz.func93,Go.Proofs.Tryz.func94,Go.Proofs.Tryz.func95,Go.Proofs.Tryz.func96,Go.Proofs.Tryz.func97,Go.Proofs.Tryz.func98,Go.Proofs.Tryz.func99,Go.Proofs.Tryz.func100,Go.Proofs.Tryz.func101,Go.Proofs.Tryz.func102,Go.Proofs.Tryz.func103,Go.Proofs.Tryz.func104,Go.Proofs.Tryz.func105,Go.Proofs.Tryz.func106,Go.Proofs.Tryz.func107,Go.Proofs.Tryz.func108,Go.Proofs.Tryz.func109,Go.Proofs.Tryz.func110,Go.Proofs.Tryz.func111,Go.Proofs.Tryz.func112,Go.Proofs.Tryz.func113,Go.Proofs.Tryz.func114,Go.Proofs.Tryz.func115,Go.Proofs.Tryz.func116,Go.Proofs.Tryz.func117,Go.Proofs.Tryz.func118,Go.Proofs.Tryz.func119,Go.Proofs.Tryz.func120,Go.Proofs.Tryz.func121,Go.Proofs.Tryz.func122,Go.Proofs.Tryz.func123,Go.Proofs.Tryz.func124,Go.Proofs.Tryz.func125,Go.Proofs.Tryz.func126,Go.Proofs.Tryz.func127,Go.Proofs.Tryz.func128,Go.Proofs.Tryz.func129,List.forall_mem_nil _⟩
theorem meth_rows:(methL.all fun r=>r.2.all fun p=>methodOf zA2 r.1 p.1==some p.2)=true:=by kernel_rfl
theorem name_rows:(fnL.all fun x=>x.2.name != "runtime.NumGoroutine")=true:=by kernel_rfl
theorem code_rows:(fnL.all fun x=>match x.2.body with
 | some b=>codeOk x.2.ntmps b
 | none=>true)=true:=by kernel_rfl
theorem field_rows:(tyL.all fun x=>match x.2.d with
 | .struct fs=>fs.all fun p=>(zA8 tyL p.2).isSome
 | _=>true)=true:=by kernel_rfl
theorem keys_ty:tyL.map (·.1)=[1,2,3,4,5,6,8,12,15,16,17,19,20,22,23,25,26,27,31,33,35,37,38,40,42,51,57,60,63,66,70,71,72,74,76,81,84,87,89,91,92,96,98,102,106,109,112,114,115,116,122,123,125,127,128,130,132,135,137,139,142,144,145,146,147,152,154,156,158,160,161,163,165,166,168,171,174,175,176,182,186,187,188,191,193,197,198,202,204,206,207,210,211,212,213,221]:=rfl
theorem keys_eq:eqL.map (·.1)=[2,3,4,5,6,8,12,26,31,37,38,40,42,60,66,71,72,74,81,84,96,98,112,114,125,139,152,158,160,171,174,182,202,204,221]:=rfl
theorem ok0:Ok cfg0 zA2 where
 srt g h:=absurd (show false=true from h) (by simp)
 cpt g h:=absurd (show false=true from h) (by simp)
 ty t y h:=by
  have h':zA8 tyL t=some y:=h
  rw [ty_rows t (keys_ty ▸ List.mem_map.2 ⟨_,getAt_mem h',rfl⟩)];exact h'
 eq t st ks h:=by
  have h':zA8 eqL t=some (st,ks):=h
  exact eq_rows t (keys_eq ▸ List.mem_map.2 ⟨_,getAt_mem h',rfl⟩) st ks h'
 meth t n g h:=by
  have h':methT t n=some g:=h
  unfold methT at h'
  cases e:zA8 methL t with
  | none=>rw [e] at h';exact absurd h' (by simp)
  | some r =>
   rw [e] at h'
   have hm:=getAt_mem e
   have ha:=List.all_eq_true.1 meth_rows _ hm
   simp only [Option.map_eq_some_iff] at h'
   obtain ⟨p,hp,rfl⟩:=h'
   have h1:=List.find?_some hp
   have h2:=List.mem_of_find?_eq_some hp
   have h3:=List.all_eq_true.1 ha _ h2
   have e1:p.1=n:=by simpa using h1
   subst e1
   simpa using h3
 glob g v h:=by
  have h':zA8 globL g=some v:=h
  exact getAt_mem h'
 fns g fn h:=by
  have h':zA8 fnL g=some fn:=h
  have hm:=getAt_mem h'
  have hf:=fn_rows (g,fn) hm
  refine ⟨hf,?_,?_⟩
  ·have:=List.all_eq_true.1 name_rows _ hm
   simpa using this
  ·intro b hb
   have:=List.all_eq_true.1 code_rows _ hm
   simpa only [hb] using this
 fields t y fs h hd x hx:=by
  have h':zA8 tyL t=some y:=h
  have:=List.all_eq_true.1 field_rows _ (getAt_mem h')
  simp only [hd] at this
  exact Option.isSome_iff_exists.1 (List.all_eq_true.1 this _ hx)
end Go.Ab
namespace Go.Ab
set_option linter.unusedSimpArgs false
set_option linter.unusedVariables false
open Go.ChangeShapes Go.RowKit
theorem law_calls {C:Cfg} {P:Program} (ok:Ok C P) {f:FuncId} {args:List AV} {vals:List Value} {W:World} {H:Heap} {p:Option (AV×Bool)} (h:zA9 C P false f args [] none=some ⟨.ret (.bool true),H,p⟩)
  (hg:GlobOk (Cx.start W)) (hr:RelL (Cx.start W) args vals):Calls P f vals.toArray W fun e w'=>e=.returned (.bool true)∧Below W.heap.size W w':=by
 obtain ⟨n,hn⟩:=lim_ex h
 exact calls_true ok hn rfl hg hr
theorem post_below {P:Program} {T:Type} {enc:TypeId×Value→T} {f:Func} {s:ChangeSpec} {apart fresh handsOn again:Bool} {W W':World} {args:Array Value} {v:Value} {ds gs:List (DataW T)} {before pa pv:List MemPlace}
  (hW:DataW.Whole enc P f.params.toList s.vars apart W args.toList ds gs before)
  (hres:∀ (b:Nat) (sp:Nat→Bool) (hd:Bool),DataW.TrodAll enc P W' b sp hd f.resultTypes.toList (v.resultList f.resultTypes.size) (s.fn T (ds++gs)).results [])
  (hargs:∀ sp:Nat→Bool,(∀ p∈before,sp p.block=true)→DataW.TrodAll enc P W' 0 sp true f.params.toList args.toList (s.fn T (ds++gs)).args pa)
  (hvars:∀ sp:Nat→Bool,(∀ p∈before,sp p.block=true)→DataW.TrodVars enc P W' sp s.vars (s.fn T (ds++gs)).vars pv)
  (hps:before=pa++pv) (hb:Below W.heap.size W W')
  (hok:∀ (j:Nat) (t:TypeId) (r:Value),f.resultTypes[j]? = some t→(v.resultList f.resultTypes.size)[j]? = some r→Value.okWide P W' .any 0 t r) :
  s.post enc P f apart fresh handsOn again W args v W':=by
 have hold:∀ p∈before,(fun b=>decide (b<W.heap.size)) p.block=true:=fun p hp=>by simpa using hW.lt p hp
 have hlt:∀ p∈before,p.block<W.heap.size:=hW.lt
 refine ⟨ds,gs,before,[],pa,pv,hW,hres _ _ _,hargs _ hold,hvars _ hold,World.keptBut_mono (fun p hp=>⟨hp,?_⟩) (hb.frame (fun p=>p∈before)),fun _=>?_⟩
 ·rw [hps,List.mem_append] at hp
  exact Or.inr hp
 ·obtain ⟨_,_,_,_,_,hz,hn⟩:=hW
  refine ⟨hok,_,_,([]++pa)++pv,⟨[]++pa,pv,trodAll_append (hargs _ (fun _ _=>rfl)) (hres _ _ _),hvars _ (fun _ _=>rfl),rfl,?_,?_⟩,?_⟩
  ·intro b off hp
   have hm:MemPlace.cell b off∈before:=by rw [hps];simpa using hp
   rw [hb.frozen (p:=⟨b,off,none⟩) (hlt _ hm)]
   exact hz b off hm
  ·intro ha
   have:=hn ha
   rw [hps] at this
   simpa using this
  ·intro p hp _
   rw [hps]
   simpa using hp
end Go.Ab
namespace Go.Ab
set_option linter.unusedSimpArgs false
set_option linter.unusedVariables false
open Go.ChangeShapes Go.RowKit Go.WideShapes
inductive Sh where
 | int (k:IntKind)
 | bool
 | sl (agg:Bool) (e:Sh)
 | unit
 | cons (a r:Sh)
def aggTy (P:Program) (t:TypeId):Bool :=
 match P.underlying t with
 | some (.struct _)=>true
 | some (.array _ _)=>true
 | _=>false
def shFields (P:Program) (rec:TypeId→Option Sh) (tot:Nat):List Field→Nat→Option Sh
 | [],off=>if off=tot then some .unit else none
 | f::r,off =>
  if f.offset=off then
   match rec f.type,shFields P rec tot r (off+P.cellsOf f.type) with
   | some a,some b=>some (.cons a b)
   | _,_=>none
  else none
def shRep:Nat→Sh→Sh
 | 0,_=>.unit
 | n+1,s=>.cons s (shRep n s)
def shOf (P:Program):Nat→TypeId→Option Sh
 | 0,_=>none
 | n+1,t =>
  match P.underlying t with
  | some (.int k)=>some (.int k)
  | some .bool=>some .bool
  | some (.slice e)=>if 0<P.cellsOf e then (shOf P n e).map (.sl (aggTy P e)) else none
  | some (.struct fs)=>shFields P (shOf P n) (P.cellsOf t) fs.toList 0
  | some (.array k e)=>if P.cellsOf t=k*P.cellsOf e then (shOf P n e).map (shRep k) else none
  | _=>none
def pack (agg:Bool) (cs:List AV):AV:=if agg then .agg cs else cs.headD .undef
def Shaped:Sh→List AV→Prop
 | .int k,l=>∃ n,l=[.int k n]∧(Lit.int k n).wf=true
 | .bool,l=>∃ b,l=[.bool b]
 | .sl agg e,l=>∃ f es,l=[.sl f es]∧∀ x∈es,∃ cs,Shaped e cs∧x=pack agg cs
 | .unit,l=>l=[]
 | .cons a r,l=>∃ x y,l=x++y∧Shaped a x∧Shaped r y
theorem rel_sl {c:Cx} {f:Bool} {es:List AV} {v:Value}:Rel c (.sl f es) v=(∃ a cap,v=.slice a es.length cap∧((f=true→cap=es.length)∧es.length≤cap)∧(ltL 0 es=true∧∀ x∈es,known x=true) ∧
   (es=[]∨∃ b o sz ys,a=some ⟨b,o,none⟩∧b<c.w.heap.size∧¬ c.owned b∧RelL c es ys∧(∀ y∈ys,y.cells.size=sz)∧Lies c.w b o (flat ys))):=by
 rw [Rel]
theorem relL_one {c:Cx} {v:AV} {y:Value} (h:Rel c v y):RelL c [v] [y]:=by
 simp only [RelL]
 exact ⟨y,[],rfl,h,rfl⟩
structure ReadOk (W:World) (sh:Sh) (cs:List Value) (avs:List AV):Prop where
 rel:RelL (Cx.start W) avs cs
 shp:Shaped sh avs
 lt:ltL 0 avs=true
 sca:zAb avs=true
section
variable {H:Type} {enc:TypeId×Value→H} {P:Program} {W:World}
theorem fields_read {rec:TypeId→Option Sh} {tot n:Nat} {cs:List Value} (hl:cs.length=tot)
  (ih:∀ t sh,rec t=some sh→∀ cs x,DataW.trod enc P W 0 (fun _=>true) true n t cs=some x→∃ avs,ReadOk W sh cs avs) :
  ∀ (fs:List Field) (off:Nat) (sh:Sh),shFields P rec tot fs off=some sh →
   (∀ f∈fs,∃ x,DataW.trod enc P W 0 (fun _=>true) true n f.type ((cs.drop f.offset).take (P.cellsOf f.type))=some x)→∃ avs,ReadOk W sh (cs.drop off) avs
 | [],off,sh,h,_=>by
  simp only [shFields] at h
  split at h
  ·rename_i e
   injection h with h
   subst h
   exact ⟨[],by rw [List.drop_eq_nil_of_le (by omega)];simp only [RelL],rfl,rfl,rfl⟩
  ·cases h
 | f::r,off,sh,h,hf=>by
  simp only [shFields] at h
  split at h
  ·rename_i e
   split at h
   ·rename_i a b ha hb
    injection h with h
    subst h
    obtain ⟨x,hx⟩:=hf f (List.mem_cons_self ..)
    rw [e] at hx
    obtain ⟨avs,h1⟩:=ih f.type a ha _ x hx
    obtain ⟨bvs,h2⟩:=fields_read hl ih r _ b hb fun g hg=>hf g (List.mem_cons_of_mem _ hg)
    refine ⟨avs++bvs,?_,⟨avs,bvs,rfl,h1.shp,h2.shp⟩,by rw [ltL_append,h1.lt,h2.lt];rfl,by rw [allScalar_append,h1.sca,h2.sca];rfl⟩
    have:cs.drop off=(cs.drop off).take (P.cellsOf f.type)++cs.drop (off+P.cellsOf f.type):=by
     rw [← List.drop_drop,List.take_append_drop]
    rw [this]
    exact RelL.append h1.rel h2.rel
   ·cases h
  ·cases h
theorem array_read {k sz:Nat} {e:TypeId} {she:Sh} {n:Nat} {cs:List Value} (hsz:P.cellsOf e=sz) (hl:cs.length=k*sz)
  (ih:∀ cs x,DataW.trod enc P W 0 (fun _=>true) true n e cs=some x→∃ avs,ReadOk W she cs avs)
  (hall:∀ i,i<k→∃ x,DataW.trod enc P W 0 (fun _=>true) true n e ((cs.drop (i*sz)).take sz)=some x):∀ j,j≤k→∃ avs,ReadOk W (shRep j she) (cs.drop ((k-j)*sz)) avs
 | 0,_=>⟨[],by rw [List.drop_eq_nil_of_le (by rw [hl];exact Nat.le_refl _)];simp only [RelL],rfl,rfl,rfl⟩
 | j+1,hj=>by
  obtain ⟨bvs,h2⟩:=array_read hsz hl ih hall j (by omega)
  obtain ⟨x,hx⟩:=hall (k-(j+1)) (by omega)
  obtain ⟨avs,h1⟩:=ih _ _ hx
  refine ⟨avs++bvs,?_,⟨avs,bvs,rfl,h1.shp,h2.shp⟩,by rw [ltL_append,h1.lt,h2.lt];rfl,by rw [allScalar_append,h1.sca,h2.sca];rfl⟩
  have e1:(k-j)*sz=(k-(j+1))*sz+sz:=by
   rw [show k-j=(k-(j+1))+1 by omega,Nat.add_mul,Nat.one_mul]
  have:cs.drop ((k-(j+1))*sz)=(cs.drop ((k-(j+1))*sz)).take sz++cs.drop ((k-j)*sz):=by
   rw [e1,← List.drop_drop,List.take_append_drop]
  rw [this]
  exact RelL.append h1.rel h2.rel
theorem cells_single {y:Value} (h:∀ cs,y≠.agg cs):y.cells=#[y]:=by
 cases y<;>first | rfl | exact absurd rfl (h _)
theorem elems_read {n sz:Nat} {e:TypeId} {sh:Sh} {agg:Bool} {b o:Nat} (hsz:P.cellsOf e=sz) (hpos:0<sz)
  (ih:∀ cs x,DataW.trod enc P W 0 (fun _=>true) true n e cs=some x→∃ avs,ReadOk W sh cs avs∧(agg=false→∃ y,cs=[y]∧∀ z,y≠.agg z)) {len:Nat}
  (hel:∀ i,i<len→∃ x,(W.cells? 0 (Addr.add ⟨b,o,none⟩ (i*sz)) sz).bind (DataW.trod enc P W 0 (fun _=>true) true n e)=some x) :
  ∀ j,j≤len→∃ es ys,es.length=j∧RelL (Cx.start W) es ys∧(∀ y∈ys,y.cells.size=sz)∧Lies W b o (flat ys)∧ltL 0 es=true∧∀ x∈es,known x=true∧∃ cs,Shaped sh cs∧x=pack agg cs
 | 0,_=>⟨[],[],rfl,by simp only [RelL],by simp,by intro k hk;simp [flat] at hk,rfl,by simp⟩
 | j+1,hj=>by
  obtain ⟨es,ys,h1,h2,h3,h4,h5,h6⟩:=elems_read hsz hpos ih hel j (by omega)
  obtain ⟨x,hx⟩:=hel j (by omega)
  rw [Option.bind_eq_some_iff] at hx
  obtain ⟨cs,hc,ht⟩:=hx
  obtain ⟨-,hcl,hcc⟩:=World.cells?_some hc
  obtain ⟨avs,hr,hs⟩:=ih cs x ht
  have hyl:ys.length=j:=by rw [← h2.length,h1]
  have hfl:(flat ys).length=j*sz:=by rw [zAr h3,hyl]
  have hav:avs.length=sz:=by rw [hr.rel.length,hcl]
  have key:∃ z:Value,z.cells.toList=cs∧Rel (Cx.start W) (pack agg avs) z∧known (pack agg avs)=true∧(pack agg avs).lt 0=true:=by
   cases agg with
   | true =>
    refine ⟨.agg cs.toArray,by simp [Value.cells],?_,?_,?_⟩
    ·simp only [pack,if_true,Rel]
     exact ⟨cs.toArray,rfl,hr.rel⟩
    ·simp only [pack,if_true,known,AV.cells,hr.sca]
    ·simp only [pack,if_true,AV.lt,hr.lt]
   | false =>
    obtain ⟨y,rfl,hy⟩:=hs rfl
    have:=hr.rel
    cases avs with
    | nil=>simp at hcl hav;omega
    | cons a r =>
     simp only [RelL] at this
     obtain ⟨y',s',he,hra,hrr⟩:=this
     simp only [List.cons.injEq] at he
     obtain ⟨rfl,rfl⟩:=he
     have hs2:=hr.sca
     have hl2:=hr.lt
     simp only [zAb,Bool.and_eq_true] at hs2
     simp only [ltL,Bool.and_eq_true] at hl2
     refine ⟨y,by rw [cells_single hy],by simpa only [pack,Bool.false_eq_true,if_false,List.headD_cons] using hra,?_,by simpa only [pack,Bool.false_eq_true,if_false,List.headD_cons] using hl2.1⟩
     simp only [pack,Bool.false_eq_true,if_false,List.headD_cons,known]
     have:a.cells=[a]:=by
      have:=hs2.1
      cases a<;>simp only [AV.scalar] at this<;>first | rfl | cases this
     rw [this];simp only [zAb,hs2.1,Bool.and_self]
  obtain ⟨z,hz1,hz2,hz3,hz4⟩:=key
  refine ⟨es++[pack agg avs],ys++[z],by simp [h1],RelL.append h2 (by simp only [RelL];exact ⟨z,[],rfl,hz2,rfl⟩),?_,?_,by rw [ltL_append,h5];simp only [ltL,hz4,Bool.and_self],?_⟩
  ·intro y hy
   rcases List.mem_append.1 hy with hy | hy
   ·exact h3 y hy
   ·rw [List.mem_singleton] at hy
    subst hy
    rw [← Array.length_toList,hz1,hcl]
  ·intro k hk
   rw [zBe] at hk ⊢
   have hfz:flat [z]=cs:=by simp [flat,hz1]
   rw [hfz] at hk ⊢
   rw [List.length_append,hfl,hcl] at hk
   rcases Nat.lt_or_ge k (j*sz) with hlt | hge
   ·rw [List.getElem?_append_left (by omega)]
    exact h4 k (by omega)
   ·rw [List.getElem?_append_right (by omega),hfl]
    have:=hcc (k-j*sz) (by omega)
    rw [add_plain,add_plain] at this
    rw [← this]
    congr 2
    omega
  ·intro x' hx'
   rcases List.mem_append.1 hx' with hx' | hx'
   ·exact h6 x' hx'
   ·rw [List.mem_singleton] at hx'
    subst hx'
    exact ⟨hz3,avs,hr.shp,rfl⟩
theorem aggTy_false {e:TypeId} (h:aggTy P e=false) {n:Nat} {sh:Sh} (hsh:shOf P n e=some sh) {m:Nat} {cs:List Value} {x:DataW H×List MemPlace} (ht:DataW.trod enc P W 0 (fun _=>true) true m e cs=some x):∃ y,cs=[y]∧∀ z,y≠.agg z:=by
 cases n with
 | zero=>simp [shOf] at hsh
 | succ n =>
  simp only [shOf] at hsh
  split at hsh
  ·rename_i hu
   obtain ⟨k,rfl,-,-⟩:=DataW.trod_int hu ht
   exact ⟨_,rfl,fun z hz=>by cases hz⟩
  ·rename_i hu
   obtain ⟨k,rfl,-⟩:=DataW.trod_bool hu ht
   exact ⟨_,rfl,fun z hz=>by cases hz⟩
  ·rename_i hu
   rcases DataW.trod_slice hu ht with ⟨rfl,-⟩ | ⟨a,len,cap,_,_,_,_,rfl,_⟩
   ·exact ⟨_,rfl,fun z hz=>by cases hz⟩
   ·exact ⟨_,rfl,fun z hz=>by cases hz⟩
  ·rename_i hu
   simp [aggTy,hu] at h
  ·rename_i hu
   simp [aggTy,hu] at h
  ·cases hsh
theorem reads:∀ (n:Nat) (t:TypeId) (sh:Sh),shOf P n t=some sh→∀ (m:Nat) (cs:List Value) (x:DataW H×List MemPlace),DataW.trod enc P W 0 (fun _=>true) true m t cs=some x→∃ avs,ReadOk W sh cs avs
 | 0,t,sh,h,_,_,_,_=>by simp [shOf] at h
 | n+1,t,sh,h,m,cs,x,hx=>by
  simp only [shOf] at h
  split at h
  ·rename_i k hu
   injection h with h;subst h
   obtain ⟨z,rfl,-,hw⟩:=DataW.trod_int hu hx
   exact ⟨[.int k z],by simp only [RelL,Rel];exact ⟨_,[],rfl,rfl,rfl⟩,⟨z,rfl,hw⟩,rfl,rfl⟩
  ·rename_i hu
   injection h with h;subst h
   obtain ⟨z,rfl,-⟩:=DataW.trod_bool hu hx
   exact ⟨[.bool z],by simp only [RelL,Rel];exact ⟨_,[],rfl,rfl,rfl⟩,⟨z,rfl⟩,rfl,rfl⟩
  ·rename_i e hu
   split at h
   ·rename_i hpos
    rw [Option.map_eq_some_iff] at h
    obtain ⟨she,he,rfl⟩:=h
    rcases DataW.trod_slice hu hx with ⟨rfl,-⟩ | ⟨a,len,cap,elems,rest,m',hm,rfl,-,-,hle,hcap,hel,hall,-,-⟩
    ·refine ⟨[.sl true []],relL_one (by rw [rel_sl];exact ⟨none,0,rfl,⟨fun _=>rfl,Nat.le_refl _⟩,⟨rfl,by simp⟩,.inl rfl⟩),⟨true,[],rfl,by simp⟩,rfl,rfl⟩
    ·rcases Nat.eq_zero_or_pos len with h0 | h0
     ·subst h0
      refine ⟨[.sl false []],relL_one (by rw [rel_sl];exact ⟨some a,cap,rfl,⟨fun h=>by simp at h,Nat.zero_le _⟩,⟨rfl,by simp⟩,.inl rfl⟩),⟨false,[],rfl,by simp⟩,rfl,rfl⟩
     ·obtain ⟨b,o,spot⟩:=a
      have hel':∀ i,i<len→∃ x,(W.cells? 0 (Addr.add ⟨b,o,spot⟩ (i*P.cellsOf e)) (P.cellsOf e)).bind (DataW.trod enc P W 0 (fun _=>true) true m' e)=some x:=by
       intro i hi
       rw [hall i hi]
       exact ⟨elems[i]'(by omega),List.getElem?_eq_getElem (by omega)⟩
      have hb0:b<W.heap.size∧spot=none:=by
       obtain ⟨y,hy⟩:=hel' 0 h0
       rw [Option.bind_eq_some_iff] at hy
       obtain ⟨c0,hc0,-⟩:=hy
       obtain ⟨-,hl0,hg0⟩:=World.cells?_some hc0
       have g:=hg0 0 hpos
       rw [List.getElem?_eq_getElem (by omega)] at g
       have hsp:spot=none:=by simpa [Addr.add] using World.cell?_spot g
       subst hsp
       refine ⟨?_,rfl⟩
       rw [add_plain,add_plain] at g
       simp only [World.cell?] at g
       refine Nat.lt_of_not_le fun hle=>?_
       have:W.heap[b]? = none:=by simp [hle]
       simp [this] at g
      obtain ⟨hb,rfl⟩:=hb0
      obtain ⟨es,ys,h1,h2,h3,h4,h5,h6⟩:=elems_read (sh:=she) (agg:=aggTy P e) rfl hpos (fun cs x hx=>by
       obtain ⟨avs,ha⟩:=reads n e she he m' cs x hx
       exact ⟨avs,ha,fun hf=>aggTy_false hf he hx⟩) hel' len (Nat.le_refl _)
      refine ⟨[.sl false es],?_,⟨false,es,rfl,fun x hx=>(h6 x hx).2⟩,rfl,rfl⟩
      refine relL_one ?_
      rw [rel_sl]
      refine ⟨some ⟨b,o,none⟩,cap,by rw [h1],⟨fun h=>by simp at h,by omega⟩,⟨h5,fun x hx=>(h6 x hx).1⟩,.inr ⟨b,o,P.cellsOf e,ys,rfl,hb,?_,h2,h3,h4⟩⟩
      rintro ⟨l,hl⟩
      cases hl
   ·cases h
  ·rename_i fs hu
   obtain ⟨xs,m',rfl,-,hl,hfl,hall⟩:=DataW.trod_struct hu hx
   have:=fields_read (enc:=enc) (P:=P) (W:=W) (rec:=shOf P n) (tot:=P.cellsOf t) (n:=m') (cs:=cs) hl (fun t sh h cs x hx=>reads n t sh h m' cs x hx) fs.toList 0 sh h (by
    intro f hf
    obtain ⟨i,hi⟩:=List.mem_iff_getElem?.1 hf
    have hi':fs[i]? = some f:=by simpa using hi
    have hlt:i<xs.length:=by
     have:=(List.getElem?_eq_some_iff.1 hi).1
     simp at this;omega
    exact ⟨xs[i],by rw [hall i f hi',List.getElem?_eq_getElem hlt]⟩)
   simpa using this
  ·rename_i k e hu
   split at h
   ·rename_i hc
    rw [Option.map_eq_some_iff] at h
    obtain ⟨she,he,rfl⟩:=h
    obtain ⟨xs,m',rfl,-,hl,hxl,hall⟩:=DataW.trod_array hu hx
    have:=array_read (enc:=enc) (P:=P) (W:=W) (she:=she) (n:=m') (cs:=cs) (k:=k) rfl (by rw [hl,hc]) (fun cs x hx=>reads n e she he m' cs x hx) (fun i hi=>⟨xs[i]'(by omega),by rw [hall i hi,List.getElem?_eq_getElem (by omega)]⟩) k (Nat.le_refl _)
    simpa using this
   ·cases h
  ·cases h
theorem arg_agg {t:TypeId} {fs:Array Field} {n:Nat} {sh:Sh} {r:Reach} {b0:Nat} {v:Value} {d:DataW H} {ps:List MemPlace} (hu:P.underlying t=some (.struct fs)) (hsh:shOf P n t=some sh) (hval:Value.okWide P W r b0 t v) (hd:DataW.Trod enc P W 0 (fun _=>true) true t v d ps) :
  ∃ avs,Rel (Cx.start W) (.agg avs) v∧Shaped sh avs:=by
 obtain ⟨cs,rfl,-⟩:=okWide_struct hu hval
 obtain ⟨m,hm⟩:=hd
 obtain ⟨avs,h⟩:=reads n t sh hsh m _ _ hm
 refine ⟨avs,?_,h.shp⟩
 simp only [Rel]
 exact ⟨cs,rfl,h.rel⟩
theorem arg_sl {t e:TypeId} {n:Nat} {agg:Bool} {she:Sh} {r:Reach} {b0:Nat} {v:Value} {d:DataW H} {ps:List MemPlace} (hu:P.underlying t=some (.slice e)) (hsh:shOf P n t=some (.sl agg she)) (hval:Value.okWide P W r b0 t v) (hd:DataW.Trod enc P W 0 (fun _=>true) true t v d ps) :
  ∃ f es,Rel (Cx.start W) (.sl f es) v∧∀ x∈es,∃ cs,Shaped she cs∧x=pack agg cs:=by
 obtain ⟨a,len,cap,rfl⟩:=okWide_slice hu hval
 obtain ⟨m,hm⟩:=hd
 obtain ⟨avs,h⟩:=reads n t _ hsh m _ _ hm
 obtain ⟨f,es,rfl,hs⟩:=h.shp
 have hr:=h.rel
 rw [RelL] at hr
 obtain ⟨y,s,he,hy,-⟩:=hr
 simp only [Value.cells,List.cons.injEq] at he
 obtain ⟨rfl,-⟩:=he
 exact ⟨f,es,hy,hs⟩
theorem trod_keep {t:TypeId} (hl:laidOutB P=true) (hr:P.readableRec t=true) (hrow:t<P.types.size) {W':World} {v:Value} {d:DataW H} {ps:List MemPlace} {sp:Nat→Bool}
  (h:DataW.Trod enc P W 0 (fun _=>true) true t v d ps) (hb:Below W.heap.size W W') (hlt:∀ x∈ps,x.block<W.heap.size) (hs:∀ x∈ps,sp x.block=true) :
  DataW.Trod enc P W' 0 sp true t v d ps :=
 WideElems.Trod_stays hl hr hrow h (fun x hx=>hb.same (hlt x hx)) hs
theorem trodAll_keep (hl:laidOutB P=true) {W':World} {sp:Nat→Bool} (hb:Below W.heap.size W W'):∀ {ts:List TypeId} {vs:List Value} {ds:List (DataW H)} {ps:List MemPlace},(∀ t∈ts,P.readableRec t=true∧t<P.types.size) →
  DataW.TrodAll enc P W 0 (fun _=>true) true ts vs ds ps→(∀ x∈ps,x.block<W.heap.size)→(∀ x∈ps,sp x.block=true)→DataW.TrodAll enc P W' 0 sp true ts vs ds ps
 | [],[],[],_,_,h,_,_=>h
 | t::ts,v::vs,d::ds,_,ht,⟨p,q,h1,h2,e⟩,hlt,hs =>
  ⟨p,q,trod_keep hl (ht t (List.mem_cons_self ..)).1 (ht t (List.mem_cons_self ..)).2 h1 hb (fun x hx=>hlt x (by rw [e];exact List.mem_append_left _ hx)) (fun x hx=>hs x (by rw [e];exact List.mem_append_left _ hx)),
   trodAll_keep hl hb (fun t ht'=>ht t (List.mem_cons_of_mem _ ht')) h2 (fun x hx=>hlt x (by rw [e];exact List.mem_append_right _ hx)) (fun x hx=>hs x (by rw [e];exact List.mem_append_right _ hx)),e⟩
end
theorem list_of {α:Type} {f:α→AV}:∀ {es:List AV},(∀ x∈es,∃ a,x=f a)→∃ l:List α,es=l.map f
 | [],_=>⟨[],rfl⟩
 | x::r,h=>by
  obtain ⟨a,rfl⟩:=h x (List.mem_cons_self ..)
  obtain ⟨l,rfl⟩:=list_of fun y hy=>h y (List.mem_cons_of_mem _ hy)
  exact ⟨a::l,rfl⟩
end Go.Ab
namespace Go.Ab
open Go.Proofs
set_option linter.unusedSimpArgs false
set_option linter.unusedVariables false
set_option maxRecDepth 100000
variable {H:Heap}
abbrev I (n:Int):AV:=.int .i64 n
theorem w64 {n:Int} (h1 : -9223372036854775808≤n) (h2:n<9223372036854775808):IntKind.i64.wrap n=n:=by
 simp only [IntKind.wrap,IntKind.bits,IntKind.signed]
 have e:(2:Int)^64=18446744073709551616:=by decide
 have e':(2:Int)^(64-1)=9223372036854775808:=by decide
 simp only [Bool.true_and,decide_eq_true_eq,e,e']
 split<;>omega
theorem i64ok {n:Int} (h : -9223372036854775808≤n∧n<9223372036854775808):IntKind.i64.wrap n=n:=w64 h.1 h.2
theorem ltT {a b:Int} (h:a<b):(a<b)=True:=eq_true h
theorem ltF {a b:Int} (h:¬ a<b):(a<b)=False:=eq_false h
theorem leT {a b:Int} (h:a≤b):(a≤b)=True:=eq_true h
theorem SlOk.fI {v:AV} {xs:List Int} (h:SlOk H 1 v (xs.map I)) :
  (∀ (G:Heap) (te:Ty) (k:Int),te.size=1→(0≤k∧k<xs.length)→idxAddr (H++G) te v k=some (elA v k 0)) ∧ 
  (∀ (te:Ty) (k:Int),te.size=1→(0≤k∧k<xs.length)→idxAddr H te v k=some (elA v k 0)) ∧ 
  (∀ (G:Heap) (te:Ty) (k:Int),(0≤k∧k<xs.length)→evLoad (H++G) te (elA v k 0)=zAf [I (xs.getD k.toNat 0)] 0 te) ∧
  (∀ (te:Ty) (k:Int),(0≤k∧k<xs.length)→evLoad H te (elA v k 0)=zAf [I (xs.getD k.toNat 0)] 0 te):=by
 have key:∀ k:Int,(0≤k∧k<xs.length)→(xs.map I)[k.toNat]? = some (I (xs.getD k.toNat 0)):=by
  intro k hk
  have:k.toNat<xs.length:=by omega
  simp [this]
 refine ⟨fun G te k hs hk=>?_,fun te k hs hk=>?_,fun G te k hk=>?_,fun te k hk=>?_⟩
 ·exact (h.at hk.1 (key k hk)).2.2.2.1 G te hs
 ·exact (h.at hk.1 (key k hk)).1 te hs
 ·rw [(h.at hk.1 (key k hk)).2.2.2.2 G 0 te];rfl
 ·rw [(h.at hk.1 (key k hk)).2.1 0 te];rfl
attribute [go_sem] i64ok Int.toNat_natCast Nat.mul_one List.length_map decide_true decide_false Bool.true_and Bool.and_true Bool.false_and Bool.and_false Bool.true_or Bool.or_true Bool.false_or Bool.or_false Bool.not_true Bool.not_false Bool.not_not Option.isSome_none Option.isSome_some List.append_eq
end Go.Ab
namespace Go.Ab
set_option linter.unusedSimpArgs false
set_option linter.unusedVariables false
def anyF (f:Nat→Bool):Nat→Nat→Bool
 | _,0=>false
 | j,q+1=>f j||anyF f (j+1) q
def findF {α:Type} (f:Nat→Option α):Nat→Nat→Option α
 | _,0=>none
 | j,q+1=>match f j with
  | some x=>some x
  | none=>findF f (j+1) q
def foldF {β:Type} (g:β→Nat→β):β→Nat→Nat→β
 | b,_,0=>b
 | b,j,q+1=>foldF g (g b j) (j+1) q
theorem anyF_iff (f:Nat→Bool):∀ (q j:Nat),anyF f j q=true↔∃ i,j≤i∧i<j+q∧f i=true
 | 0,j=>by simp [anyF];intro x h1 h2;omega
 | q+1,j=>by
  simp only [anyF,Bool.or_eq_true,anyF_iff f q (j+1)]
  constructor
  ·rintro (h | ⟨i,h1,h2,h3⟩)
   ·exact ⟨j,by omega,by omega,h⟩
   ·exact ⟨i,by omega,by omega,h3⟩
  ·rintro ⟨i,h1,h2,h3⟩
   by_cases e:i=j
   ·subst e;exact .inl h3
   ·exact .inr ⟨i,by omega,by omega,h3⟩
theorem anyF_false (f:Nat→Bool) (q j:Nat):anyF f j q=false↔∀ i,j≤i→i<j+q→f i=false:=by
 rw [← Bool.not_eq_true,anyF_iff]
 constructor
 ·intro h i h1 h2
  rw [← Bool.not_eq_true]
  intro h3
  exact h ⟨i,h1,h2,h3⟩
 ·rintro h ⟨i,h1,h2,h3⟩
  rw [h i h1 h2] at h3
  cases h3
theorem findF_none {α:Type} (f:Nat→Option α):∀ (q j:Nat),findF f j q=none↔∀ i,j≤i→i<j+q→f i=none
 | 0,j=>by simp [findF];intro i h1 h2;omega
 | q+1,j=>by
  simp only [findF]
  cases h:f j with
  | some x =>
   simp only [reduceCtorEq,false_iff]
   intro h2
   have:=h2 j (by omega) (by omega)
   rw [h] at this;cases this
  | none =>
   simp only
   rw [findF_none f q (j+1)]
   constructor
   ·intro h2 i h3 h4
    by_cases e:i=j
    ·subst e;exact h
    ·exact h2 i (by omega) (by omega)
   ·intro h2 i h3 h4
    exact h2 i (by omega) (by omega)
theorem findF_some {α:Type} (f:Nat→Option α) (x:α):∀ (q j:Nat),findF f j q=some x↔∃ i,j≤i∧i<j+q∧f i=some x∧∀ k,j≤k→k<i→f k=none
 | 0,j=>by
  simp only [findF,reduceCtorEq,false_iff]
  rintro ⟨i,h1,h2,-⟩;omega
 | q+1,j=>by
  simp only [findF]
  cases h:f j with
  | some y =>
   simp only [Option.some.injEq]
   constructor
   ·rintro rfl
    exact ⟨j,by omega,by omega,h,fun k h1 h2=>by omega⟩
   ·rintro ⟨i,h1,h2,h3,h4⟩
    by_cases e:i=j
    ·subst e;rw [h] at h3;injection h3
    ·have:=h4 j (by omega) (by omega)
     rw [h] at this;cases this
  | none =>
   simp only
   rw [findF_some f x q (j+1)]
   constructor
   ·rintro ⟨i,h1,h2,h3,h4⟩
    refine ⟨i,by omega,by omega,h3,fun k h5 h6=>?_⟩
    by_cases e:k=j
    ·subst e;exact h
    ·exact h4 k (by omega) h6
   ·rintro ⟨i,h1,h2,h3,h4⟩
    have:i≠j:=by rintro rfl;rw [h] at h3;cases h3
    exact ⟨i,by omega,by omega,h3,fun k h5 h6=>h4 k (by omega) h6⟩
end Go.Ab
namespace Go.Ab
open Go.Proofs
set_option linter.unusedSimpArgs false
set_option linter.unusedVariables false
set_option maxRecDepth 100000
variable {H:Heap}
abbrev U (n:Nat):AV:=.int .u64 (n:Int)
theorem wrapU {n:Nat} (h:n<18446744073709551616):IntKind.u64.wrap (n:Int)=n:=by
 simp only [IntKind.wrap,IntKind.bits,IntKind.signed]
 have e:(2:Int)^64=18446744073709551616:=by decide
 simp only [e,Bool.false_and]
 simp
 omega
theorem ofIntN {n:Nat} (hn:n<2^63):(BitVec.ofInt 64 (n:Int)).toNat=n:=by
 rw [BitVec.ofInt_natCast,BitVec.toNat_ofNat,Nat.mod_eq_of_lt (by omega)]
theorem bitsOr {a b:Nat} (ha:a<2^63) (hb:b<2^63):zBr .or .u64 (a:Int) (b:Int)=some ((a ||| b:Nat):Int):=by
 have h:=Nat.or_lt_two_pow ha hb
 show some (IntKind.u64.wrap (((BitVec.ofInt 64 (a:Int) ||| BitVec.ofInt 64 (b:Int)):BitVec 64).toNat:Int))=_
 rw [BitVec.toNat_or,ofIntN ha,ofIntN hb,wrapU (by omega)]
theorem bitsAnd {a b:Nat} (ha:a<2^63) (hb:b<2^63):zBr .and .u64 (a:Int) (b:Int)=some ((a &&& b:Nat):Int):=by
 have h:a &&& b≤a:=Nat.and_le_left
 show some (IntKind.u64.wrap (((BitVec.ofInt 64 (a:Int) &&& BitVec.ofInt 64 (b:Int)):BitVec 64).toNat:Int))=_
 rw [BitVec.toNat_and,ofIntN ha,ofIntN hb,wrapU (by omega)]
theorem bitsAndI {a b:Nat} (ha:a<2^63) (hb:b<2^63):zBr .and .i64 (a:Int) (b:Int)=some ((a &&& b:Nat):Int):=by
 have h:a &&& b≤a:=Nat.and_le_left
 show some (IntKind.i64.wrap (((BitVec.ofInt 64 (a:Int) &&& BitVec.ofInt 64 (b:Int)):BitVec 64).toNat:Int))=_
 rw [BitVec.toNat_and,ofIntN ha,ofIntN hb,w64 (by omega) (by omega)]
def diffN (a b:Nat):Nat:=a ^^^ (a &&& b)
theorem two_pow_lt {k n:Nat} (h:k<n):2^k<2^n:=Nat.pow_lt_pow_right (by omega) h
theorem shlU {k:Nat} (hk:k≤60):IntKind.u64.wrap (1*2^(min k 64))=((2^k:Nat):Int):=by
 have h:=two_pow_lt (show k<61 by omega)
 rw [Nat.min_eq_left (by omega),Int.one_mul,show (2:Int)^k=((2^k:Nat):Int) by rw [Int.natCast_pow];rfl]
 exact wrapU (by omega)
theorem shlI {k:Nat} (hk:k≤60):IntKind.i64.wrap (1*2^(min k 64))=((2^k:Nat):Int):=by
 have h:=two_pow_lt (show k<61 by omega)
 rw [Nat.min_eq_left (by omega),Int.one_mul,show (2:Int)^k=((2^k:Nat):Int) by rw [Int.natCast_pow];rfl]
 generalize (2:Nat)^k=m at h ⊢
 exact w64 (by omega) (by omega)
theorem fdivN (x k:Nat):(x:Int).fdiv (k:Int)=((x/k:Nat):Int):=by rw [Int.fdiv_eq_ediv_of_nonneg _ (Int.natCast_nonneg _)];rfl
theorem shrN {s j:Nat} (hj:j≤60):(s:Int).fdiv (2^min j 64)=((s/2^j:Nat):Int):=by
 rw [← fdivN,Nat.min_eq_left (by omega),Int.natCast_pow]
 rfl
theorem and_one {s j:Nat}:(((s/2^j &&& 1:Nat):Int)==1)=s.testBit j:=by
 rw [Nat.and_one_is_mod,Nat.testBit_eq_decide_div_mod_eq]
 have:s/2^j%2=0∨s/2^j%2=1:=by omega
 rcases this with h | h<;>rw [h]<;>rfl
theorem div_lt {s j n:Nat} (h:s<n):s/2^j<n:=Nat.lt_of_le_of_lt (Nat.div_le_self _ _) h
theorem bitU {s j:Nat} (hs:s<2^60):zBr .and .u64 ((s/2^j:Nat):Int) 1=some ((s/2^j &&& 1:Nat):Int) :=
 bitsAnd (b:=1) (div_lt (by omega)) (by decide)
theorem bitI {s j:Nat} (hs:s<2^60):zBr .and .i64 ((s/2^j:Nat):Int) 1=some ((s/2^j &&& 1:Nat):Int) :=
 bitsAndI (b:=1) (div_lt (by omega)) (by decide)
def maskN (f:Nat→Bool):Nat→Nat
 | 0=>0
 | n+1=>maskN f n ||| (if f n then 2^n else 0)
end Go.Ab
namespace Go.Ab
open Go.Proofs
set_option linter.unusedSimpArgs false
set_option linter.unusedVariables false
set_option maxRecDepth 100000
set_option maxHeartbeats 2000000
variable {H:Heap}
def wi (n lo hi:Int):Bool:=decide (lo≤n)&&decide (n≤hi)
theorem SlOk.fF {α:Type} {f:α→AV} {d:α} {sz:Nat} {v:AV} {xs:List α} (h:SlOk H sz v (xs.map f)) :
  (∀ (G:Heap) (te:Ty) (k:Int),te.size=sz→(0≤k∧k<xs.length)→idxAddr (H++G) te v k=some (elA v k 0)) ∧
  (∀ (te:Ty) (k:Int),te.size=sz→(0≤k∧k<xs.length)→idxAddr H te v k=some (elA v k 0)) ∧
  (∀ (G:Heap) (te:Ty) (k:Int) (off:Nat),(0≤k∧k<xs.length)→evLoad (H++G) te (elA v k off)=zAf (f (xs.getD k.toNat d)).cells off te) ∧
  (∀ (te:Ty) (k:Int) (off:Nat),(0≤k∧k<xs.length)→evLoad H te (elA v k off)=zAf (f (xs.getD k.toNat d)).cells off te) ∧
  (∀ (k:Int) (off o:Nat),addOff (elA v k off) o=some (elA v k (off+o))):=by
 have key:∀ k:Int,(0≤k∧k<xs.length)→(xs.map f)[k.toNat]? = some (f (xs.getD k.toNat d)):=by
  intro k hk
  have:k.toNat<xs.length:=by omega
  simp [this]
 refine ⟨fun G te k hs hk=>?_,fun te k hs hk=>?_,fun G te k off hk=>?_,fun te k off hk=>?_,fun k off o=>addOff_elA h⟩
 ·exact (h.at hk.1 (key k hk)).2.2.2.1 G te hs
 ·exact (h.at hk.1 (key k hk)).1 te hs
 ·rw [(h.at hk.1 (key k hk)).2.2.2.2 G off te]
 ·rw [(h.at hk.1 (key k hk)).2.1 off te]
theorem slI (b:Bool) (xs:List Int):SlOk H 1 (.sl b (xs.map I)) (xs.map I):=⟨rfl,fun x hx=>by
 obtain ⟨i,_,rfl⟩:=List.mem_map.1 hx;rfl⟩
def spA (p:Int×Int):AV:=.agg [I p.1,I p.2]
theorem spLt (l:List (Int×Int)) (N:Nat):ltL N (l.map spA)=true:=zAx (fun _=>rfl) l
theorem slS (b:Bool) (xs:List (Int×Int)):SlOk H 2 (.sl b (xs.map spA)) (xs.map spA):=⟨rfl,fun x hx=>by
 obtain ⟨i,_,rfl⟩:=List.mem_map.1 hx;rfl⟩
theorem SlOk.old {sz:Nat} {v:AV} {xs:List AV} (h:SlOk H sz v xs) (A B:Heap):pairM (some (H++A,H++B)) (gslOf v)=true:=by
 rcases h.obj with hg | ⟨l,hg,hlt,hget⟩
 ·rw [hg];rfl
 ·rw [hg,pairM_some]
  have hs:∀ l:List AV,zBb l l=true:=fun l=>by
   induction l with
   | nil=>rfl
   | cons x r ih=>simp [zBb,AV.same_refl,ih]
  simp only [sameAt,List.getElem?_append_left hlt,hget,AO.same,hs]
  simp
def popF:Nat→Nat→Nat
 | 0,_=>0
 | f+1,n=>n%2+popF f (n/2)
def pop (n:Nat):Nat:=popF 20 n
theorem popF_zero:∀ f,popF f 0=0
 | 0=>rfl
 | f+1=>by simp [popF,popF_zero f]
theorem popF_le:∀ f n,popF f n≤f
 | 0,_=>Nat.le_refl _
 | f+1,n=>by have:=popF_le f (n/2);simp only [popF];omega
def M0:Nat:=6148914691236517205
def M1:Nat:=3689348814741910323
def M2:Nat:=1085102592571150095
def y1 (x:Nat):Nat:=(x/2 &&& M0)+(x &&& M0)
def y2 (x:Nat):Nat:=(y1 x/4 &&& M1)+(y1 x &&& M1)
def y3 (x:Nat):Nat:=(y2 x/16+y2 x) &&& M2
def y4 (x:Nat):Nat:=y3 x+y3 x/256
def y5 (x:Nat):Nat:=y4 x+y4 x/65536
def y6 (x:Nat):Nat:=y5 x+y5 x/4294967296
theorem y_bd:∀ x<1024,y1 x<1024∧y2 x<1024∧y3 x<1024∧y4 x<1024∧y5 x<1024∧y6 x<1024∧(y6 x &&& 127)=pop x:=by decide +kernel
theorem ones64 {x:Nat} (hx:x<1024):zA9 cfg0 zA2 false 74 [U x] H none=some ⟨.ret (I (pop x)),H,none⟩:=by
 obtain ⟨b1,b2,b3,b4,b5,b6,b7⟩:=y_bd x hx
 have f1:(x:Int).fdiv (2^min 1 64)=((x/2:Nat):Int):=fdivN x 2
 have f2:(y1 x:Int).fdiv (2^min 2 64)=((y1 x/4:Nat):Int):=fdivN (y1 x) 4
 have f3:(y2 x:Int).fdiv (2^min 4 64)=((y2 x/16:Nat):Int):=fdivN (y2 x) 16
 have f4:(y3 x:Int).fdiv (2^min 8 64)=((y3 x/256:Nat):Int):=fdivN (y3 x) 256
 have f5:(y4 x:Int).fdiv (2^min 16 64)=((y4 x/65536:Nat):Int):=fdivN (y4 x) 65536
 have f6:(y5 x:Int).fdiv (2^min 32 64)=((y5 x/4294967296:Nat):Int):=fdivN (y5 x) 4294967296
 have g1:zBr .and .u64 ((x/2:Nat):Int) 6148914691236517205=some ((x/2 &&& M0:Nat):Int):=bitsAnd (b:=M0) (by omega) (by decide)
 have g2:zBr .and .u64 (x:Int) 6148914691236517205=some ((x &&& M0:Nat):Int):=bitsAnd (b:=M0) (by omega) (by decide)
 have g3:zBr .and .u64 ((y1 x/4:Nat):Int) 3689348814741910323=some ((y1 x/4 &&& M1:Nat):Int):=bitsAnd (b:=M1) (by omega) (by decide)
 have g4:zBr .and .u64 (y1 x:Int) 3689348814741910323=some ((y1 x &&& M1:Nat):Int):=bitsAnd (b:=M1) (by omega) (by decide)
 have g5:zBr .and .u64 ((y2 x/16+y2 x:Nat):Int) 1085102592571150095=some (y3 x:Int):=bitsAnd (b:=M2) (by omega) (by decide)
 have g6:zBr .and .i64 (y6 x:Int) 127=some (pop x:Int):=by rw [← b7];exact bitsAndI (b:=127) (by omega) (by decide)
 have k1:IntKind.u64.wrap (((x/2 &&& M0:Nat):Int)+((x &&& M0:Nat):Int))=(y1 x:Int):=wrapU (n:=y1 x) (by omega)
 have k2:IntKind.u64.wrap (((y1 x/4 &&& M1:Nat):Int)+((y1 x &&& M1:Nat):Int))=(y2 x:Int):=wrapU (n:=y2 x) (by omega)
 have k3:IntKind.u64.wrap (((y2 x/16:Nat):Int)+(y2 x:Int))=((y2 x/16+y2 x:Nat):Int):=wrapU (n:=y2 x/16+y2 x) (by omega)
 have k4:IntKind.u64.wrap ((y3 x:Int)+((y3 x/256:Nat):Int))=(y4 x:Int):=wrapU (n:=y4 x) (by omega)
 have k5:IntKind.u64.wrap ((y4 x:Int)+((y4 x/65536:Nat):Int))=(y5 x:Int):=wrapU (n:=y5 x) (by omega)
 have k6:IntKind.u64.wrap ((y5 x:Int)+((y5 x/4294967296:Nat):Int))=(y6 x:Int):=wrapU (n:=y6 x) (by omega)
 have k7:IntKind.i64.wrap (y6 x:Int)=(y6 x:Int):=w64 (by omega) (by omega)
 refine (zA1 fn74 rfl (by simp [Tryz.f74])).trans ?_
 simp -implicitDefEqProofs (maxSteps:=1000000) (disch:=first|rfl|omega|assumption) only [go_sem,f1,f2,f3,f4,f5,f6,g1,g2,g3,g4,g5,g6,k1,k2,k3,k4,k5,k6,k7]
theorem ones {x:Nat} (hx:x<1024):zA9 cfg0 zA2 false 46 [U x] H none=some ⟨.ret (I (pop x)),H,none⟩:=by
 have h1:=fun G:Heap=>ones64 (H:=G) hx
 have h2:IntKind.u64.wrap (x:Int)=x:=wrapU (by omega)
 refine (zA1 fn46 rfl (by simp [Tryz.f46])).trans ?_
 simp -implicitDefEqProofs (maxSteps:=1000000) (disch:=first|rfl|omega|assumption) only [go_sem,h1,h2]
end Go.Ab
