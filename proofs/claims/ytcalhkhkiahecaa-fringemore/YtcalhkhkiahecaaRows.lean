/-
  No cell of these rows narrows 'for every input' (looked for: loops, veiled, ifaces, maps, wideKeys, modest, calm, conditions, laid).
  DERIVED. THE GIVEN ROWS OF THIS SEAT. 8 by the template 'for every input the law returns true; each argument reads behind the call as it read before'; 0 by the template 'total and deterministic' (their statements: YtcalhkhkiahecaaTotals.lean).
  GIVEN WITH THE SEED: the statements are not yours to turn. If you find one false, say at which input.
  Laid BY PROGRAM, IN A SANDBOX (cutbox-rows.mjs): the forced cells as the released guide's own fill.sh prints them over the translation 47c435653b8fccea… (all of the seat's roots in one cut). By AI agents, Wed Nov 11 2026. No macro, syntax, notation, axiom, sorry.
-/
import Derived.Test.YtcalhkhkiahecaaChecked
import GoSem.Claim
import GoSem.ClaimJoined
import GoSem.ClaimMapViews
import Derived.JoinedTies
import Derived.KernelRfl
namespace Go.Proofs.Ytcalhkhkiahecaa
/- THE CELL 'sum', in the pinned program and in every row, IS THE sha256 OF THE DUMP (.gsa) THAT YtcalhkhkiahecaaProg.lean LOADS. Nothing in Lean hashes anything: it is a label: what it is worth is what the hold of that sum in a sandbox is worth. -/
noncomputable def Try.pinned : Pinned := { name := "ytcalhkhkiahecaa", sum := "47c435653b8fccea26d0e1a37c992cbbc1d7eb1bbbe2b3458b0b782dab97450a", checked := Try.checked }
namespace Rows
def none {H : Type} : Left H := { results := [], args := [] }

/-- 'blockworkslaw01.FringeNames': WHATEVER THE INPUT: true; the input reads as it did. -/
def fringeNamesSpec : ChangeSpec := { name := "fringeNames", fn := fun _ => fun
  | [] => { results := [.lit (.bool true)], args := [] }
  | _ => none }
def fringeNamesRow : OpenClaim := { program := "ytcalhkhkiahecaa", sum := "47c435653b8fccea26d0e1a37c992cbbc1d7eb1bbbe2b3458b0b782dab97450a", func := "blockworks/blockworkslaw01.FringeNames", spec := "fringeNames", unfollowed := true, recurses := true, plainKeys := false, apart := false }
def FringeNamesSaid : Prop := fringeNamesRow.holds Try.pinned (OpenSpec.ofChange fringeNamesSpec)

/-- ITS FALSE NEIGHBOUR: 'it returns false'. Refute it at one input. -/
def fringeNamesWrong : ChangeSpec := { name := "fringeNames", fn := fun _ => fun
  | [] => { results := [.lit (.bool false)], args := [] }
  | _ => none }
def FringeNamesWrongFalsely : Prop := fringeNamesRow.holds Try.pinned (OpenSpec.ofChange fringeNamesWrong)

/-- 'blockworkslaw01.FringeTrue': WHATEVER THE INPUT: true; the input reads as it did. -/
def fringeTrueSpec : ChangeSpec := { name := "fringeTrue", fn := fun _ => fun
  | [d] => { results := [.lit (.bool true)], args := [d] }
  | _ => none }
def fringeTrueRow : OpenClaim := { program := "ytcalhkhkiahecaa", sum := "47c435653b8fccea26d0e1a37c992cbbc1d7eb1bbbe2b3458b0b782dab97450a", func := "blockworks/blockworkslaw01.FringeTrue", spec := "fringeTrue", unfollowed := true, recurses := true, plainKeys := false, apart := false }
def FringeTrueSaid : Prop := fringeTrueRow.holds Try.pinned (OpenSpec.ofChange fringeTrueSpec)

/-- ITS FALSE NEIGHBOUR: 'it returns false'. Refute it at one input. -/
def fringeTrueWrong : ChangeSpec := { name := "fringeTrue", fn := fun _ => fun
  | [d] => { results := [.lit (.bool false)], args := [d] }
  | _ => none }
def FringeTrueWrongFalsely : Prop := fringeTrueRow.holds Try.pinned (OpenSpec.ofChange fringeTrueWrong)

/-- 'blockworkslaw01.FringeParts': WHATEVER THE INPUT: true; the input reads as it did. -/
def fringePartsSpec : ChangeSpec := { name := "fringeParts", fn := fun _ => fun
  | [d1, d2, d3] => { results := [.lit (.bool true)], args := [d1, d2, d3] }
  | _ => none }
def fringePartsRow : OpenClaim := { program := "ytcalhkhkiahecaa", sum := "47c435653b8fccea26d0e1a37c992cbbc1d7eb1bbbe2b3458b0b782dab97450a", func := "blockworks/blockworkslaw01.FringeParts", spec := "fringeParts", unfollowed := true, recurses := true, plainKeys := false, apart := false }
def FringePartsSaid : Prop := fringePartsRow.holds Try.pinned (OpenSpec.ofChange fringePartsSpec)

/-- ITS FALSE NEIGHBOUR: 'it returns false'. Refute it at one input. -/
def fringePartsWrong : ChangeSpec := { name := "fringeParts", fn := fun _ => fun
  | [d1, d2, d3] => { results := [.lit (.bool false)], args := [d1, d2, d3] }
  | _ => none }
def FringePartsWrongFalsely : Prop := fringePartsRow.holds Try.pinned (OpenSpec.ofChange fringePartsWrong)

/-- 'blockworkslaw01.FringeLengths': WHATEVER THE INPUT: true; the input reads as it did. -/
def fringeLengthsSpec : ChangeSpec := { name := "fringeLengths", fn := fun _ => fun
  | [d1, d2, d3] => { results := [.lit (.bool true)], args := [d1, d2, d3] }
  | _ => none }
def fringeLengthsRow : OpenClaim := { program := "ytcalhkhkiahecaa", sum := "47c435653b8fccea26d0e1a37c992cbbc1d7eb1bbbe2b3458b0b782dab97450a", func := "blockworks/blockworkslaw01.FringeLengths", spec := "fringeLengths", unfollowed := true, recurses := true, plainKeys := false, apart := false }
def FringeLengthsSaid : Prop := fringeLengthsRow.holds Try.pinned (OpenSpec.ofChange fringeLengthsSpec)

/-- ITS FALSE NEIGHBOUR: 'it returns false'. Refute it at one input. -/
def fringeLengthsWrong : ChangeSpec := { name := "fringeLengths", fn := fun _ => fun
  | [d1, d2, d3] => { results := [.lit (.bool false)], args := [d1, d2, d3] }
  | _ => none }
def FringeLengthsWrongFalsely : Prop := fringeLengthsRow.holds Try.pinned (OpenSpec.ofChange fringeLengthsWrong)

/-- 'blockworkslaw01.FringeWhole': WHATEVER THE INPUT: true; the input reads as it did. -/
def fringeWholeSpec : ChangeSpec := { name := "fringeWhole", fn := fun _ => fun
  | [d1, d2] => { results := [.lit (.bool true)], args := [d1, d2] }
  | _ => none }
def fringeWholeRow : OpenClaim := { program := "ytcalhkhkiahecaa", sum := "47c435653b8fccea26d0e1a37c992cbbc1d7eb1bbbe2b3458b0b782dab97450a", func := "blockworks/blockworkslaw01.FringeWhole", spec := "fringeWhole", unfollowed := true, recurses := true, plainKeys := false, apart := false }
def FringeWholeSaid : Prop := fringeWholeRow.holds Try.pinned (OpenSpec.ofChange fringeWholeSpec)

/-- ITS FALSE NEIGHBOUR: 'it returns false'. Refute it at one input. -/
def fringeWholeWrong : ChangeSpec := { name := "fringeWhole", fn := fun _ => fun
  | [d1, d2] => { results := [.lit (.bool false)], args := [d1, d2] }
  | _ => none }
def FringeWholeWrongFalsely : Prop := fringeWholeRow.holds Try.pinned (OpenSpec.ofChange fringeWholeWrong)

/-- 'blockworkslaw01.FringeAsk': WHATEVER THE INPUT: true; the input reads as it did. -/
def fringeAskSpec : ChangeSpec := { name := "fringeAsk", fn := fun _ => fun
  | [d1, d2] => { results := [.lit (.bool true)], args := [d1, d2] }
  | _ => none }
def fringeAskRow : OpenClaim := { program := "ytcalhkhkiahecaa", sum := "47c435653b8fccea26d0e1a37c992cbbc1d7eb1bbbe2b3458b0b782dab97450a", func := "blockworks/blockworkslaw01.FringeAsk", spec := "fringeAsk", unfollowed := true, recurses := true, plainKeys := false, apart := false }
def FringeAskSaid : Prop := fringeAskRow.holds Try.pinned (OpenSpec.ofChange fringeAskSpec)

/-- ITS FALSE NEIGHBOUR: 'it returns false'. Refute it at one input. -/
def fringeAskWrong : ChangeSpec := { name := "fringeAsk", fn := fun _ => fun
  | [d1, d2] => { results := [.lit (.bool false)], args := [d1, d2] }
  | _ => none }
def FringeAskWrongFalsely : Prop := fringeAskRow.holds Try.pinned (OpenSpec.ofChange fringeAskWrong)

/-- 'blockworkslaw01.FringeClash': WHATEVER THE INPUT: true; the input reads as it did. -/
def fringeClashSpec : ChangeSpec := { name := "fringeClash", fn := fun _ => fun
  | [d1, d2] => { results := [.lit (.bool true)], args := [d1, d2] }
  | _ => none }
def fringeClashRow : OpenClaim := { program := "ytcalhkhkiahecaa", sum := "47c435653b8fccea26d0e1a37c992cbbc1d7eb1bbbe2b3458b0b782dab97450a", func := "blockworks/blockworkslaw01.FringeClash", spec := "fringeClash", unfollowed := true, recurses := true, plainKeys := false, apart := false }
def FringeClashSaid : Prop := fringeClashRow.holds Try.pinned (OpenSpec.ofChange fringeClashSpec)

/-- ITS FALSE NEIGHBOUR: 'it returns false'. Refute it at one input. -/
def fringeClashWrong : ChangeSpec := { name := "fringeClash", fn := fun _ => fun
  | [d1, d2] => { results := [.lit (.bool false)], args := [d1, d2] }
  | _ => none }
def FringeClashWrongFalsely : Prop := fringeClashRow.holds Try.pinned (OpenSpec.ofChange fringeClashWrong)

/-- 'blockworkslaw01.FringeMore': WHATEVER THE INPUT: true; the input reads as it did. -/
def fringeMoreSpec : ChangeSpec := { name := "fringeMore", fn := fun _ => fun
  | [d1, d2, d3] => { results := [.lit (.bool true)], args := [d1, d2, d3] }
  | _ => none }
def fringeMoreRow : OpenClaim := { program := "ytcalhkhkiahecaa", sum := "47c435653b8fccea26d0e1a37c992cbbc1d7eb1bbbe2b3458b0b782dab97450a", func := "blockworks/blockworkslaw01.FringeMore", spec := "fringeMore", unfollowed := true, recurses := true, plainKeys := false, apart := false }
def FringeMoreSaid : Prop := fringeMoreRow.holds Try.pinned (OpenSpec.ofChange fringeMoreSpec)

/-- ITS FALSE NEIGHBOUR: 'it returns false'. Refute it at one input. -/
def fringeMoreWrong : ChangeSpec := { name := "fringeMore", fn := fun _ => fun
  | [d1, d2, d3] => { results := [.lit (.bool false)], args := [d1, d2, d3] }
  | _ => none }
def FringeMoreWrongFalsely : Prop := fringeMoreRow.holds Try.pinned (OpenSpec.ofChange fringeMoreWrong)

/- THE SECOND FORM. 'bulk': how many values and letters a reading holds, each counted each time it is reached (what is shared counts as often as it is met; a slice's spare places count too). A statement '..UptoSaid' is the law's where the arguments, and the package variables that the reading takes, are together of bulk at most 1048576: NARROWER than '..Said'. Prove '..Said' where nothing that the law and all that it calls make is longer than what came in: it says more and counts as full. Else prove '..UptoSaid'. A law counts once. -/
mutual
def uptoBulk {H : Type} : DataW H → Nat
  | .lit (.string bytes) => bytes.length + 1
  | .lit _ => 1
  | .nil => 1
  | .ptr d => uptoBulk d + 1
  | .slice elems spare => uptoBulkAll elems + uptoBulkAll spare + 1
  | .agg parts => uptoBulkAll parts + 1
  | .iface _ d => uptoBulk d + 1
  | .map entries => uptoBulkEntries entries + 1
  | .held _ => 1
def uptoBulkAll {H : Type} : List (DataW H) → Nat
  | [] => 0
  | d :: r => uptoBulk d + uptoBulkAll r
def uptoBulkEntries {H : Type} : List (Lit × DataW H) → Nat
  | [] => 0
  | x :: r => uptoBulkEntry x + uptoBulkEntries r
def uptoBulkEntry {H : Type} : Lit × DataW H → Nat
  | (.string bytes, d) => bytes.length + uptoBulk d + 1
  | (_, d) => uptoBulk d + 1
 end
def uptoSmall : (H : Type) → List (DataW H) → Bool := fun _ ds => decide (uptoBulkAll ds ≤ 1048576)
def OpenSpec.upto (s : _root_.Go.ChangeSpec) : _root_.Go.OpenSpec := { _root_.Go.OpenSpec.ofChange s with cond := some uptoSmall }

/-- 'blockworkslaw01.FringeNames', WHERE WHAT IT READS IS OF BULK AT MOST 1048576: true; the input reads as it did. -/
def fringeNamesUptoRow : OpenClaim := { program := "ytcalhkhkiahecaa", sum := "47c435653b8fccea26d0e1a37c992cbbc1d7eb1bbbe2b3458b0b782dab97450a", func := "blockworks/blockworkslaw01.FringeNames", spec := "fringeNames", unfollowed := true, recurses := true, plainKeys := false, apart := false, narrowed := true }
def FringeNamesUptoSaid : Prop := fringeNamesUptoRow.holds Try.pinned (OpenSpec.upto fringeNamesSpec)

/-- 'blockworkslaw01.FringeTrue', WHERE WHAT IT READS IS OF BULK AT MOST 1048576: true; the input reads as it did. -/
def fringeTrueUptoRow : OpenClaim := { program := "ytcalhkhkiahecaa", sum := "47c435653b8fccea26d0e1a37c992cbbc1d7eb1bbbe2b3458b0b782dab97450a", func := "blockworks/blockworkslaw01.FringeTrue", spec := "fringeTrue", unfollowed := true, recurses := true, plainKeys := false, apart := false, narrowed := true }
def FringeTrueUptoSaid : Prop := fringeTrueUptoRow.holds Try.pinned (OpenSpec.upto fringeTrueSpec)

/-- 'blockworkslaw01.FringeParts', WHERE WHAT IT READS IS OF BULK AT MOST 1048576: true; the input reads as it did. -/
def fringePartsUptoRow : OpenClaim := { program := "ytcalhkhkiahecaa", sum := "47c435653b8fccea26d0e1a37c992cbbc1d7eb1bbbe2b3458b0b782dab97450a", func := "blockworks/blockworkslaw01.FringeParts", spec := "fringeParts", unfollowed := true, recurses := true, plainKeys := false, apart := false, narrowed := true }
def FringePartsUptoSaid : Prop := fringePartsUptoRow.holds Try.pinned (OpenSpec.upto fringePartsSpec)

/-- 'blockworkslaw01.FringeLengths', WHERE WHAT IT READS IS OF BULK AT MOST 1048576: true; the input reads as it did. -/
def fringeLengthsUptoRow : OpenClaim := { program := "ytcalhkhkiahecaa", sum := "47c435653b8fccea26d0e1a37c992cbbc1d7eb1bbbe2b3458b0b782dab97450a", func := "blockworks/blockworkslaw01.FringeLengths", spec := "fringeLengths", unfollowed := true, recurses := true, plainKeys := false, apart := false, narrowed := true }
def FringeLengthsUptoSaid : Prop := fringeLengthsUptoRow.holds Try.pinned (OpenSpec.upto fringeLengthsSpec)

/-- 'blockworkslaw01.FringeWhole', WHERE WHAT IT READS IS OF BULK AT MOST 1048576: true; the input reads as it did. -/
def fringeWholeUptoRow : OpenClaim := { program := "ytcalhkhkiahecaa", sum := "47c435653b8fccea26d0e1a37c992cbbc1d7eb1bbbe2b3458b0b782dab97450a", func := "blockworks/blockworkslaw01.FringeWhole", spec := "fringeWhole", unfollowed := true, recurses := true, plainKeys := false, apart := false, narrowed := true }
def FringeWholeUptoSaid : Prop := fringeWholeUptoRow.holds Try.pinned (OpenSpec.upto fringeWholeSpec)

/-- 'blockworkslaw01.FringeAsk', WHERE WHAT IT READS IS OF BULK AT MOST 1048576: true; the input reads as it did. -/
def fringeAskUptoRow : OpenClaim := { program := "ytcalhkhkiahecaa", sum := "47c435653b8fccea26d0e1a37c992cbbc1d7eb1bbbe2b3458b0b782dab97450a", func := "blockworks/blockworkslaw01.FringeAsk", spec := "fringeAsk", unfollowed := true, recurses := true, plainKeys := false, apart := false, narrowed := true }
def FringeAskUptoSaid : Prop := fringeAskUptoRow.holds Try.pinned (OpenSpec.upto fringeAskSpec)

/-- 'blockworkslaw01.FringeClash', WHERE WHAT IT READS IS OF BULK AT MOST 1048576: true; the input reads as it did. -/
def fringeClashUptoRow : OpenClaim := { program := "ytcalhkhkiahecaa", sum := "47c435653b8fccea26d0e1a37c992cbbc1d7eb1bbbe2b3458b0b782dab97450a", func := "blockworks/blockworkslaw01.FringeClash", spec := "fringeClash", unfollowed := true, recurses := true, plainKeys := false, apart := false, narrowed := true }
def FringeClashUptoSaid : Prop := fringeClashUptoRow.holds Try.pinned (OpenSpec.upto fringeClashSpec)

/-- 'blockworkslaw01.FringeMore', WHERE WHAT IT READS IS OF BULK AT MOST 1048576: true; the input reads as it did. -/
def fringeMoreUptoRow : OpenClaim := { program := "ytcalhkhkiahecaa", sum := "47c435653b8fccea26d0e1a37c992cbbc1d7eb1bbbe2b3458b0b782dab97450a", func := "blockworks/blockworkslaw01.FringeMore", spec := "fringeMore", unfollowed := true, recurses := true, plainKeys := false, apart := false, narrowed := true }
def FringeMoreUptoSaid : Prop := fringeMoreUptoRow.holds Try.pinned (OpenSpec.upto fringeMoreSpec)

end Rows
end Go.Proofs.Ytcalhkhkiahecaa
