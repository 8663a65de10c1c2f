/-
  No cell of these rows narrows 'for every input' (looked for: loops, veiled, ifaces, maps, wideKeys, modest, calm, conditions, laid).
  DERIVED. THE GIVEN ROWS OF THIS SEAT. 10 by the template 'for every input the law returns true; each argument reads behind the call as it read before'; 0 by the template 'total and deterministic' (their statements: YteeefmibaggekaaTotals.lean).
  GIVEN WITH THE SEED: the statements are not yours to turn. If you find one false, say at which input.
  Laid BY PROGRAM, IN A SANDBOX (cutbox-rows.mjs): the forced cells as the released guide's own fill.sh prints them over the translation f039bf0338a1bb37… (all of the seat's roots in one cut). By AI agents, Wed Nov 11 2026. No macro, syntax, notation, axiom, sorry.
-/
import Derived.Test.YteeefmibaggekaaChecked
import GoSem.Claim
import GoSem.ClaimJoined
import GoSem.ClaimMapViews
import Derived.JoinedTies
import Derived.KernelRfl
namespace Go.Proofs.Yteeefmibaggekaa
/- THE CELL 'sum', in the pinned program and in every row, IS THE sha256 OF THE DUMP (.gsa) THAT YteeefmibaggekaaProg.lean LOADS. Nothing in Lean hashes anything: it is a label: what it is worth is what the hold of that sum in a sandbox is worth. -/
noncomputable def Try.pinned : Pinned := { name := "yteeefmibaggekaa", sum := "f039bf0338a1bb37b641b225112ff8201c64c7c6a3a41660438991698c357c52", checked := Try.checked }
namespace Rows
def none {H : Type} : Left H := { results := [], args := [] }

/-- 'blockworkslaw05.WringTells': WHATEVER THE INPUT: true; the input reads as it did. -/
def wringTellsSpec : ChangeSpec := { name := "wringTells", fn := fun _ => fun
  | [d1, d2] => { results := [.lit (.bool true)], args := [d1, d2] }
  | _ => none }
def wringTellsRow : OpenClaim := { program := "yteeefmibaggekaa", sum := "f039bf0338a1bb37b641b225112ff8201c64c7c6a3a41660438991698c357c52", func := "blockworks/blockworkslaw05.WringTells", spec := "wringTells", unfollowed := true, recurses := true, plainKeys := false, apart := false }
def WringTellsSaid : Prop := wringTellsRow.holds Try.pinned (OpenSpec.ofChange wringTellsSpec)

/-- ITS FALSE NEIGHBOUR: 'it returns false'. Refute it at one input. -/
def wringTellsWrong : ChangeSpec := { name := "wringTells", fn := fun _ => fun
  | [d1, d2] => { results := [.lit (.bool false)], args := [d1, d2] }
  | _ => none }
def WringTellsWrongFalsely : Prop := wringTellsRow.holds Try.pinned (OpenSpec.ofChange wringTellsWrong)

/-- 'blockworkslaw05.WringStacks': WHATEVER THE INPUT: true; the input reads as it did. -/
def wringStacksSpec : ChangeSpec := { name := "wringStacks", fn := fun _ => fun
  | [d] => { results := [.lit (.bool true)], args := [d] }
  | _ => none }
def wringStacksRow : OpenClaim := { program := "yteeefmibaggekaa", sum := "f039bf0338a1bb37b641b225112ff8201c64c7c6a3a41660438991698c357c52", func := "blockworks/blockworkslaw05.WringStacks", spec := "wringStacks", unfollowed := true, recurses := true, plainKeys := false, apart := false }
def WringStacksSaid : Prop := wringStacksRow.holds Try.pinned (OpenSpec.ofChange wringStacksSpec)

/-- ITS FALSE NEIGHBOUR: 'it returns false'. Refute it at one input. -/
def wringStacksWrong : ChangeSpec := { name := "wringStacks", fn := fun _ => fun
  | [d] => { results := [.lit (.bool false)], args := [d] }
  | _ => none }
def WringStacksWrongFalsely : Prop := wringStacksRow.holds Try.pinned (OpenSpec.ofChange wringStacksWrong)

/-- 'blockworkslaw05.WringSets': WHATEVER THE INPUT: true; the input reads as it did. -/
def wringSetsSpec : ChangeSpec := { name := "wringSets", fn := fun _ => fun
  | [d] => { results := [.lit (.bool true)], args := [d] }
  | _ => none }
def wringSetsRow : OpenClaim := { program := "yteeefmibaggekaa", sum := "f039bf0338a1bb37b641b225112ff8201c64c7c6a3a41660438991698c357c52", func := "blockworks/blockworkslaw05.WringSets", spec := "wringSets", unfollowed := true, recurses := true, plainKeys := false, apart := false }
def WringSetsSaid : Prop := wringSetsRow.holds Try.pinned (OpenSpec.ofChange wringSetsSpec)

/-- ITS FALSE NEIGHBOUR: 'it returns false'. Refute it at one input. -/
def wringSetsWrong : ChangeSpec := { name := "wringSets", fn := fun _ => fun
  | [d] => { results := [.lit (.bool false)], args := [d] }
  | _ => none }
def WringSetsWrongFalsely : Prop := wringSetsRow.holds Try.pinned (OpenSpec.ofChange wringSetsWrong)

/-- 'blockworkslaw05.WringNames': WHATEVER THE INPUT: true; the input reads as it did. -/
def wringNamesSpec : ChangeSpec := { name := "wringNames", fn := fun _ => fun
  | [] => { results := [.lit (.bool true)], args := [] }
  | _ => none }
def wringNamesRow : OpenClaim := { program := "yteeefmibaggekaa", sum := "f039bf0338a1bb37b641b225112ff8201c64c7c6a3a41660438991698c357c52", func := "blockworks/blockworkslaw05.WringNames", spec := "wringNames", unfollowed := true, recurses := true, plainKeys := false, apart := false }
def WringNamesSaid : Prop := wringNamesRow.holds Try.pinned (OpenSpec.ofChange wringNamesSpec)

/-- ITS FALSE NEIGHBOUR: 'it returns false'. Refute it at one input. -/
def wringNamesWrong : ChangeSpec := { name := "wringNames", fn := fun _ => fun
  | [] => { results := [.lit (.bool false)], args := [] }
  | _ => none }
def WringNamesWrongFalsely : Prop := wringNamesRow.holds Try.pinned (OpenSpec.ofChange wringNamesWrong)

/-- 'blockworkslaw05.WringTrue': WHATEVER THE INPUT: true; the input reads as it did. -/
def wringTrueSpec : ChangeSpec := { name := "wringTrue", fn := fun _ => fun
  | [d1, d2, d3] => { results := [.lit (.bool true)], args := [d1, d2, d3] }
  | _ => none }
def wringTrueRow : OpenClaim := { program := "yteeefmibaggekaa", sum := "f039bf0338a1bb37b641b225112ff8201c64c7c6a3a41660438991698c357c52", func := "blockworks/blockworkslaw05.WringTrue", spec := "wringTrue", unfollowed := true, recurses := true, plainKeys := false, apart := false }
def WringTrueSaid : Prop := wringTrueRow.holds Try.pinned (OpenSpec.ofChange wringTrueSpec)

/-- ITS FALSE NEIGHBOUR: 'it returns false'. Refute it at one input. -/
def wringTrueWrong : ChangeSpec := { name := "wringTrue", fn := fun _ => fun
  | [d1, d2, d3] => { results := [.lit (.bool false)], args := [d1, d2, d3] }
  | _ => none }
def WringTrueWrongFalsely : Prop := wringTrueRow.holds Try.pinned (OpenSpec.ofChange wringTrueWrong)

/-- 'blockworkslaw05.WringCheck': WHATEVER THE INPUT: true; the input reads as it did. -/
def wringCheckSpec : ChangeSpec := { name := "wringCheck", fn := fun _ => fun
  | [d1, d2] => { results := [.lit (.bool true)], args := [d1, d2] }
  | _ => none }
def wringCheckRow : OpenClaim := { program := "yteeefmibaggekaa", sum := "f039bf0338a1bb37b641b225112ff8201c64c7c6a3a41660438991698c357c52", func := "blockworks/blockworkslaw05.WringCheck", spec := "wringCheck", unfollowed := true, recurses := true, plainKeys := false, apart := false }
def WringCheckSaid : Prop := wringCheckRow.holds Try.pinned (OpenSpec.ofChange wringCheckSpec)

/-- ITS FALSE NEIGHBOUR: 'it returns false'. Refute it at one input. -/
def wringCheckWrong : ChangeSpec := { name := "wringCheck", fn := fun _ => fun
  | [d1, d2] => { results := [.lit (.bool false)], args := [d1, d2] }
  | _ => none }
def WringCheckWrongFalsely : Prop := wringCheckRow.holds Try.pinned (OpenSpec.ofChange wringCheckWrong)

/-- 'blockworkslaw05.WringBest': WHATEVER THE INPUT: true; the input reads as it did. -/
def wringBestSpec : ChangeSpec := { name := "wringBest", fn := fun _ => fun
  | [d1, d2] => { results := [.lit (.bool true)], args := [d1, d2] }
  | _ => none }
def wringBestRow : OpenClaim := { program := "yteeefmibaggekaa", sum := "f039bf0338a1bb37b641b225112ff8201c64c7c6a3a41660438991698c357c52", func := "blockworks/blockworkslaw05.WringBest", spec := "wringBest", unfollowed := true, recurses := true, plainKeys := false, apart := false }
def WringBestSaid : Prop := wringBestRow.holds Try.pinned (OpenSpec.ofChange wringBestSpec)

/-- ITS FALSE NEIGHBOUR: 'it returns false'. Refute it at one input. -/
def wringBestWrong : ChangeSpec := { name := "wringBest", fn := fun _ => fun
  | [d1, d2] => { results := [.lit (.bool false)], args := [d1, d2] }
  | _ => none }
def WringBestWrongFalsely : Prop := wringBestRow.holds Try.pinned (OpenSpec.ofChange wringBestWrong)

/-- 'blockworkslaw05.WringMost': WHATEVER THE INPUT: true; the input reads as it did. -/
def wringMostSpec : ChangeSpec := { name := "wringMost", fn := fun _ => fun
  | [d1, d2] => { results := [.lit (.bool true)], args := [d1, d2] }
  | _ => none }
def wringMostRow : OpenClaim := { program := "yteeefmibaggekaa", sum := "f039bf0338a1bb37b641b225112ff8201c64c7c6a3a41660438991698c357c52", func := "blockworks/blockworkslaw05.WringMost", spec := "wringMost", unfollowed := true, recurses := true, plainKeys := false, apart := false }
def WringMostSaid : Prop := wringMostRow.holds Try.pinned (OpenSpec.ofChange wringMostSpec)

/-- ITS FALSE NEIGHBOUR: 'it returns false'. Refute it at one input. -/
def wringMostWrong : ChangeSpec := { name := "wringMost", fn := fun _ => fun
  | [d1, d2] => { results := [.lit (.bool false)], args := [d1, d2] }
  | _ => none }
def WringMostWrongFalsely : Prop := wringMostRow.holds Try.pinned (OpenSpec.ofChange wringMostWrong)

/-- 'blockworkslaw05.WringPolish': WHATEVER THE INPUT: true; the input reads as it did. -/
def wringPolishSpec : ChangeSpec := { name := "wringPolish", fn := fun _ => fun
  | [d1, d2] => { results := [.lit (.bool true)], args := [d1, d2] }
  | _ => none }
def wringPolishRow : OpenClaim := { program := "yteeefmibaggekaa", sum := "f039bf0338a1bb37b641b225112ff8201c64c7c6a3a41660438991698c357c52", func := "blockworks/blockworkslaw05.WringPolish", spec := "wringPolish", unfollowed := true, recurses := true, plainKeys := false, apart := false }
def WringPolishSaid : Prop := wringPolishRow.holds Try.pinned (OpenSpec.ofChange wringPolishSpec)

/-- ITS FALSE NEIGHBOUR: 'it returns false'. Refute it at one input. -/
def wringPolishWrong : ChangeSpec := { name := "wringPolish", fn := fun _ => fun
  | [d1, d2] => { results := [.lit (.bool false)], args := [d1, d2] }
  | _ => none }
def WringPolishWrongFalsely : Prop := wringPolishRow.holds Try.pinned (OpenSpec.ofChange wringPolishWrong)

/-- 'blockworkslaw05.WringMore': WHATEVER THE INPUT: true; the input reads as it did. -/
def wringMoreSpec : ChangeSpec := { name := "wringMore", fn := fun _ => fun
  | [d1, d2, d3] => { results := [.lit (.bool true)], args := [d1, d2, d3] }
  | _ => none }
def wringMoreRow : OpenClaim := { program := "yteeefmibaggekaa", sum := "f039bf0338a1bb37b641b225112ff8201c64c7c6a3a41660438991698c357c52", func := "blockworks/blockworkslaw05.WringMore", spec := "wringMore", unfollowed := true, recurses := true, plainKeys := false, apart := false }
def WringMoreSaid : Prop := wringMoreRow.holds Try.pinned (OpenSpec.ofChange wringMoreSpec)

/-- ITS FALSE NEIGHBOUR: 'it returns false'. Refute it at one input. -/
def wringMoreWrong : ChangeSpec := { name := "wringMore", fn := fun _ => fun
  | [d1, d2, d3] => { results := [.lit (.bool false)], args := [d1, d2, d3] }
  | _ => none }
def WringMoreWrongFalsely : Prop := wringMoreRow.holds Try.pinned (OpenSpec.ofChange wringMoreWrong)

/- THE SECOND FORM. 'bulk': how many values and letters a reading holds, each counted each time it is reached (what is shared counts as often as it is met; a slice's spare places count too). A statement '..UptoSaid' is the law's where the arguments, and the package variables that the reading takes, are together of bulk at most 1048576: NARROWER than '..Said'. Prove '..Said' where nothing that the law and all that it calls make is longer than what came in: it says more and counts as full. Else prove '..UptoSaid'. A law counts once. -/
mutual
def uptoBulk {H : Type} : DataW H → Nat
  | .lit (.string bytes) => bytes.length + 1
  | .lit _ => 1
  | .nil => 1
  | .ptr d => uptoBulk d + 1
  | .slice elems spare => uptoBulkAll elems + uptoBulkAll spare + 1
  | .agg parts => uptoBulkAll parts + 1
  | .iface _ d => uptoBulk d + 1
  | .map entries => uptoBulkEntries entries + 1
  | .held _ => 1
def uptoBulkAll {H : Type} : List (DataW H) → Nat
  | [] => 0
  | d :: r => uptoBulk d + uptoBulkAll r
def uptoBulkEntries {H : Type} : List (Lit × DataW H) → Nat
  | [] => 0
  | x :: r => uptoBulkEntry x + uptoBulkEntries r
def uptoBulkEntry {H : Type} : Lit × DataW H → Nat
  | (.string bytes, d) => bytes.length + uptoBulk d + 1
  | (_, d) => uptoBulk d + 1
 end
def uptoSmall : (H : Type) → List (DataW H) → Bool := fun _ ds => decide (uptoBulkAll ds ≤ 1048576)
def OpenSpec.upto (s : _root_.Go.ChangeSpec) : _root_.Go.OpenSpec := { _root_.Go.OpenSpec.ofChange s with cond := some uptoSmall }

/-- 'blockworkslaw05.WringTells', WHERE WHAT IT READS IS OF BULK AT MOST 1048576: true; the input reads as it did. -/
def wringTellsUptoRow : OpenClaim := { program := "yteeefmibaggekaa", sum := "f039bf0338a1bb37b641b225112ff8201c64c7c6a3a41660438991698c357c52", func := "blockworks/blockworkslaw05.WringTells", spec := "wringTells", unfollowed := true, recurses := true, plainKeys := false, apart := false, narrowed := true }
def WringTellsUptoSaid : Prop := wringTellsUptoRow.holds Try.pinned (OpenSpec.upto wringTellsSpec)

/-- 'blockworkslaw05.WringStacks', WHERE WHAT IT READS IS OF BULK AT MOST 1048576: true; the input reads as it did. -/
def wringStacksUptoRow : OpenClaim := { program := "yteeefmibaggekaa", sum := "f039bf0338a1bb37b641b225112ff8201c64c7c6a3a41660438991698c357c52", func := "blockworks/blockworkslaw05.WringStacks", spec := "wringStacks", unfollowed := true, recurses := true, plainKeys := false, apart := false, narrowed := true }
def WringStacksUptoSaid : Prop := wringStacksUptoRow.holds Try.pinned (OpenSpec.upto wringStacksSpec)

/-- 'blockworkslaw05.WringSets', WHERE WHAT IT READS IS OF BULK AT MOST 1048576: true; the input reads as it did. -/
def wringSetsUptoRow : OpenClaim := { program := "yteeefmibaggekaa", sum := "f039bf0338a1bb37b641b225112ff8201c64c7c6a3a41660438991698c357c52", func := "blockworks/blockworkslaw05.WringSets", spec := "wringSets", unfollowed := true, recurses := true, plainKeys := false, apart := false, narrowed := true }
def WringSetsUptoSaid : Prop := wringSetsUptoRow.holds Try.pinned (OpenSpec.upto wringSetsSpec)

/-- 'blockworkslaw05.WringNames', WHERE WHAT IT READS IS OF BULK AT MOST 1048576: true; the input reads as it did. -/
def wringNamesUptoRow : OpenClaim := { program := "yteeefmibaggekaa", sum := "f039bf0338a1bb37b641b225112ff8201c64c7c6a3a41660438991698c357c52", func := "blockworks/blockworkslaw05.WringNames", spec := "wringNames", unfollowed := true, recurses := true, plainKeys := false, apart := false, narrowed := true }
def WringNamesUptoSaid : Prop := wringNamesUptoRow.holds Try.pinned (OpenSpec.upto wringNamesSpec)

/-- 'blockworkslaw05.WringTrue', WHERE WHAT IT READS IS OF BULK AT MOST 1048576: true; the input reads as it did. -/
def wringTrueUptoRow : OpenClaim := { program := "yteeefmibaggekaa", sum := "f039bf0338a1bb37b641b225112ff8201c64c7c6a3a41660438991698c357c52", func := "blockworks/blockworkslaw05.WringTrue", spec := "wringTrue", unfollowed := true, recurses := true, plainKeys := false, apart := false, narrowed := true }
def WringTrueUptoSaid : Prop := wringTrueUptoRow.holds Try.pinned (OpenSpec.upto wringTrueSpec)

/-- 'blockworkslaw05.WringCheck', WHERE WHAT IT READS IS OF BULK AT MOST 1048576: true; the input reads as it did. -/
def wringCheckUptoRow : OpenClaim := { program := "yteeefmibaggekaa", sum := "f039bf0338a1bb37b641b225112ff8201c64c7c6a3a41660438991698c357c52", func := "blockworks/blockworkslaw05.WringCheck", spec := "wringCheck", unfollowed := true, recurses := true, plainKeys := false, apart := false, narrowed := true }
def WringCheckUptoSaid : Prop := wringCheckUptoRow.holds Try.pinned (OpenSpec.upto wringCheckSpec)

/-- 'blockworkslaw05.WringBest', WHERE WHAT IT READS IS OF BULK AT MOST 1048576: true; the input reads as it did. -/
def wringBestUptoRow : OpenClaim := { program := "yteeefmibaggekaa", sum := "f039bf0338a1bb37b641b225112ff8201c64c7c6a3a41660438991698c357c52", func := "blockworks/blockworkslaw05.WringBest", spec := "wringBest", unfollowed := true, recurses := true, plainKeys := false, apart := false, narrowed := true }
def WringBestUptoSaid : Prop := wringBestUptoRow.holds Try.pinned (OpenSpec.upto wringBestSpec)

/-- 'blockworkslaw05.WringMost', WHERE WHAT IT READS IS OF BULK AT MOST 1048576: true; the input reads as it did. -/
def wringMostUptoRow : OpenClaim := { program := "yteeefmibaggekaa", sum := "f039bf0338a1bb37b641b225112ff8201c64c7c6a3a41660438991698c357c52", func := "blockworks/blockworkslaw05.WringMost", spec := "wringMost", unfollowed := true, recurses := true, plainKeys := false, apart := false, narrowed := true }
def WringMostUptoSaid : Prop := wringMostUptoRow.holds Try.pinned (OpenSpec.upto wringMostSpec)

/-- 'blockworkslaw05.WringPolish', WHERE WHAT IT READS IS OF BULK AT MOST 1048576: true; the input reads as it did. -/
def wringPolishUptoRow : OpenClaim := { program := "yteeefmibaggekaa", sum := "f039bf0338a1bb37b641b225112ff8201c64c7c6a3a41660438991698c357c52", func := "blockworks/blockworkslaw05.WringPolish", spec := "wringPolish", unfollowed := true, recurses := true, plainKeys := false, apart := false, narrowed := true }
def WringPolishUptoSaid : Prop := wringPolishUptoRow.holds Try.pinned (OpenSpec.upto wringPolishSpec)

/-- 'blockworkslaw05.WringMore', WHERE WHAT IT READS IS OF BULK AT MOST 1048576: true; the input reads as it did. -/
def wringMoreUptoRow : OpenClaim := { program := "yteeefmibaggekaa", sum := "f039bf0338a1bb37b641b225112ff8201c64c7c6a3a41660438991698c357c52", func := "blockworks/blockworkslaw05.WringMore", spec := "wringMore", unfollowed := true, recurses := true, plainKeys := false, apart := false, narrowed := true }
def WringMoreUptoSaid : Prop := wringMoreUptoRow.holds Try.pinned (OpenSpec.upto wringMoreSpec)

end Rows
end Go.Proofs.Yteeefmibaggekaa
