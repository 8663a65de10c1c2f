/-
  No cell of these rows narrows 'for every input' (looked for: loops, veiled, ifaces, maps, wideKeys, modest, calm, conditions, laid).
  DERIVED. THE GIVEN ROWS OF THIS SEAT. 9 by the template 'for every input the law returns true; each argument reads behind the call as it read before'; 0 by the template 'total and deterministic' (their statements: YtlhnmpclnbpnhaaTotals.lean).
  GIVEN WITH THE SEED: the statements are not yours to turn. If you find one false, say at which input.
  Laid BY PROGRAM, IN A SANDBOX (cutbox-rows.mjs): the forced cells as the released guide's own fill.sh prints them over the translation 31f2de4115ad3b8e… (all of the seat's roots in one cut). By AI agents, Wed Nov 11 2026. No macro, syntax, notation, axiom, sorry.
-/
import Derived.Test.YtlhnmpclnbpnhaaChecked
import GoSem.Claim
import GoSem.ClaimJoined
import GoSem.ClaimMapViews
import Derived.JoinedTies
import Derived.KernelRfl
namespace Go.Proofs.Ytlhnmpclnbpnhaa
/- THE CELL 'sum', in the pinned program and in every row, IS THE sha256 OF THE DUMP (.gsa) THAT YtlhnmpclnbpnhaaProg.lean LOADS. Nothing in Lean hashes anything: it is a label: what it is worth is what the hold of that sum in a sandbox is worth. -/
noncomputable def Try.pinned : Pinned := { name := "ytlhnmpclnbpnhaa", sum := "31f2de4115ad3b8e27d9c012c5a89aad7383223dd9bb2ec327919a28411c92c6", checked := Try.checked }
namespace Rows
def none {H : Type} : Left H := { results := [], args := [] }

/-- 'blockworkslaw11.ColourTells': WHATEVER THE INPUT: true; the input reads as it did. -/
def colourTellsSpec : ChangeSpec := { name := "colourTells", fn := fun _ => fun
  | [d1, d2, d3, d4, d5] => { results := [.lit (.bool true)], args := [d1, d2, d3, d4, d5] }
  | _ => none }
def colourTellsRow : OpenClaim := { program := "ytlhnmpclnbpnhaa", sum := "31f2de4115ad3b8e27d9c012c5a89aad7383223dd9bb2ec327919a28411c92c6", func := "blockworks/blockworkslaw11.ColourTells", spec := "colourTells", unfollowed := true, recurses := true, plainKeys := false, apart := false }
def ColourTellsSaid : Prop := colourTellsRow.holds Try.pinned (OpenSpec.ofChange colourTellsSpec)

/-- ITS FALSE NEIGHBOUR: 'it returns false'. Refute it at one input. -/
def colourTellsWrong : ChangeSpec := { name := "colourTells", fn := fun _ => fun
  | [d1, d2, d3, d4, d5] => { results := [.lit (.bool false)], args := [d1, d2, d3, d4, d5] }
  | _ => none }
def ColourTellsWrongFalsely : Prop := colourTellsRow.holds Try.pinned (OpenSpec.ofChange colourTellsWrong)

/-- 'blockworkslaw11.ColourSets': WHATEVER THE INPUT: true; the input reads as it did. -/
def colourSetsSpec : ChangeSpec := { name := "colourSets", fn := fun _ => fun
  | [d1, d2] => { results := [.lit (.bool true)], args := [d1, d2] }
  | _ => none }
def colourSetsRow : OpenClaim := { program := "ytlhnmpclnbpnhaa", sum := "31f2de4115ad3b8e27d9c012c5a89aad7383223dd9bb2ec327919a28411c92c6", func := "blockworks/blockworkslaw11.ColourSets", spec := "colourSets", unfollowed := true, recurses := true, plainKeys := false, apart := false }
def ColourSetsSaid : Prop := colourSetsRow.holds Try.pinned (OpenSpec.ofChange colourSetsSpec)

/-- ITS FALSE NEIGHBOUR: 'it returns false'. Refute it at one input. -/
def colourSetsWrong : ChangeSpec := { name := "colourSets", fn := fun _ => fun
  | [d1, d2] => { results := [.lit (.bool false)], args := [d1, d2] }
  | _ => none }
def ColourSetsWrongFalsely : Prop := colourSetsRow.holds Try.pinned (OpenSpec.ofChange colourSetsWrong)

/-- 'blockworkslaw11.ColourNames': WHATEVER THE INPUT: true; the input reads as it did. -/
def colourNamesSpec : ChangeSpec := { name := "colourNames", fn := fun _ => fun
  | [] => { results := [.lit (.bool true)], args := [] }
  | _ => none }
def colourNamesRow : OpenClaim := { program := "ytlhnmpclnbpnhaa", sum := "31f2de4115ad3b8e27d9c012c5a89aad7383223dd9bb2ec327919a28411c92c6", func := "blockworks/blockworkslaw11.ColourNames", spec := "colourNames", unfollowed := true, recurses := true, plainKeys := false, apart := false }
def ColourNamesSaid : Prop := colourNamesRow.holds Try.pinned (OpenSpec.ofChange colourNamesSpec)

/-- ITS FALSE NEIGHBOUR: 'it returns false'. Refute it at one input. -/
def colourNamesWrong : ChangeSpec := { name := "colourNames", fn := fun _ => fun
  | [] => { results := [.lit (.bool false)], args := [] }
  | _ => none }
def ColourNamesWrongFalsely : Prop := colourNamesRow.holds Try.pinned (OpenSpec.ofChange colourNamesWrong)

/-- 'blockworkslaw11.ColourApart': WHATEVER THE INPUT: true; the input reads as it did. -/
def colourApartSpec : ChangeSpec := { name := "colourApart", fn := fun _ => fun
  | [d1, d2, d3, d4] => { results := [.lit (.bool true)], args := [d1, d2, d3, d4] }
  | _ => none }
def colourApartRow : OpenClaim := { program := "ytlhnmpclnbpnhaa", sum := "31f2de4115ad3b8e27d9c012c5a89aad7383223dd9bb2ec327919a28411c92c6", func := "blockworks/blockworkslaw11.ColourApart", spec := "colourApart", unfollowed := true, recurses := true, plainKeys := false, apart := false }
def ColourApartSaid : Prop := colourApartRow.holds Try.pinned (OpenSpec.ofChange colourApartSpec)

/-- ITS FALSE NEIGHBOUR: 'it returns false'. Refute it at one input. -/
def colourApartWrong : ChangeSpec := { name := "colourApart", fn := fun _ => fun
  | [d1, d2, d3, d4] => { results := [.lit (.bool false)], args := [d1, d2, d3, d4] }
  | _ => none }
def ColourApartWrongFalsely : Prop := colourApartRow.holds Try.pinned (OpenSpec.ofChange colourApartWrong)

/-- 'blockworkslaw11.ColourPairs': WHATEVER THE INPUT: true; the input reads as it did. -/
def colourPairsSpec : ChangeSpec := { name := "colourPairs", fn := fun _ => fun
  | [d1, d2] => { results := [.lit (.bool true)], args := [d1, d2] }
  | _ => none }
def colourPairsRow : OpenClaim := { program := "ytlhnmpclnbpnhaa", sum := "31f2de4115ad3b8e27d9c012c5a89aad7383223dd9bb2ec327919a28411c92c6", func := "blockworks/blockworkslaw11.ColourPairs", spec := "colourPairs", unfollowed := true, recurses := true, plainKeys := false, apart := false }
def ColourPairsSaid : Prop := colourPairsRow.holds Try.pinned (OpenSpec.ofChange colourPairsSpec)

/-- ITS FALSE NEIGHBOUR: 'it returns false'. Refute it at one input. -/
def colourPairsWrong : ChangeSpec := { name := "colourPairs", fn := fun _ => fun
  | [d1, d2] => { results := [.lit (.bool false)], args := [d1, d2] }
  | _ => none }
def ColourPairsWrongFalsely : Prop := colourPairsRow.holds Try.pinned (OpenSpec.ofChange colourPairsWrong)

/-- 'blockworkslaw11.ColourFewest': WHATEVER THE INPUT: true; the input reads as it did. -/
def colourFewestSpec : ChangeSpec := { name := "colourFewest", fn := fun _ => fun
  | [d1, d2] => { results := [.lit (.bool true)], args := [d1, d2] }
  | _ => none }
def colourFewestRow : OpenClaim := { program := "ytlhnmpclnbpnhaa", sum := "31f2de4115ad3b8e27d9c012c5a89aad7383223dd9bb2ec327919a28411c92c6", func := "blockworks/blockworkslaw11.ColourFewest", spec := "colourFewest", unfollowed := true, recurses := true, plainKeys := false, apart := false }
def ColourFewestSaid : Prop := colourFewestRow.holds Try.pinned (OpenSpec.ofChange colourFewestSpec)

/-- ITS FALSE NEIGHBOUR: 'it returns false'. Refute it at one input. -/
def colourFewestWrong : ChangeSpec := { name := "colourFewest", fn := fun _ => fun
  | [d1, d2] => { results := [.lit (.bool false)], args := [d1, d2] }
  | _ => none }
def ColourFewestWrongFalsely : Prop := colourFewestRow.holds Try.pinned (OpenSpec.ofChange colourFewestWrong)

/-- 'blockworkslaw11.ColourSpare': WHATEVER THE INPUT: true; the input reads as it did. -/
def colourSpareSpec : ChangeSpec := { name := "colourSpare", fn := fun _ => fun
  | [d1, d2] => { results := [.lit (.bool true)], args := [d1, d2] }
  | _ => none }
def colourSpareRow : OpenClaim := { program := "ytlhnmpclnbpnhaa", sum := "31f2de4115ad3b8e27d9c012c5a89aad7383223dd9bb2ec327919a28411c92c6", func := "blockworks/blockworkslaw11.ColourSpare", spec := "colourSpare", unfollowed := true, recurses := true, plainKeys := false, apart := false }
def ColourSpareSaid : Prop := colourSpareRow.holds Try.pinned (OpenSpec.ofChange colourSpareSpec)

/-- ITS FALSE NEIGHBOUR: 'it returns false'. Refute it at one input. -/
def colourSpareWrong : ChangeSpec := { name := "colourSpare", fn := fun _ => fun
  | [d1, d2] => { results := [.lit (.bool false)], args := [d1, d2] }
  | _ => none }
def ColourSpareWrongFalsely : Prop := colourSpareRow.holds Try.pinned (OpenSpec.ofChange colourSpareWrong)

/-- 'blockworkslaw11.ColourMore': WHATEVER THE INPUT: true; the input reads as it did. -/
def colourMoreSpec : ChangeSpec := { name := "colourMore", fn := fun _ => fun
  | [d1, d2, d3, d4] => { results := [.lit (.bool true)], args := [d1, d2, d3, d4] }
  | _ => none }
def colourMoreRow : OpenClaim := { program := "ytlhnmpclnbpnhaa", sum := "31f2de4115ad3b8e27d9c012c5a89aad7383223dd9bb2ec327919a28411c92c6", func := "blockworks/blockworkslaw11.ColourMore", spec := "colourMore", unfollowed := true, recurses := true, plainKeys := false, apart := false }
def ColourMoreSaid : Prop := colourMoreRow.holds Try.pinned (OpenSpec.ofChange colourMoreSpec)

/-- ITS FALSE NEIGHBOUR: 'it returns false'. Refute it at one input. -/
def colourMoreWrong : ChangeSpec := { name := "colourMore", fn := fun _ => fun
  | [d1, d2, d3, d4] => { results := [.lit (.bool false)], args := [d1, d2, d3, d4] }
  | _ => none }
def ColourMoreWrongFalsely : Prop := colourMoreRow.holds Try.pinned (OpenSpec.ofChange colourMoreWrong)

/-- 'blockworkslaw11.ColourTrue': WHATEVER THE INPUT: true; the input reads as it did. -/
def colourTrueSpec : ChangeSpec := { name := "colourTrue", fn := fun _ => fun
  | [d1, d2, d3, d4] => { results := [.lit (.bool true)], args := [d1, d2, d3, d4] }
  | _ => none }
def colourTrueRow : OpenClaim := { program := "ytlhnmpclnbpnhaa", sum := "31f2de4115ad3b8e27d9c012c5a89aad7383223dd9bb2ec327919a28411c92c6", func := "blockworks/blockworkslaw11.ColourTrue", spec := "colourTrue", unfollowed := true, recurses := true, plainKeys := false, apart := false }
def ColourTrueSaid : Prop := colourTrueRow.holds Try.pinned (OpenSpec.ofChange colourTrueSpec)

/-- ITS FALSE NEIGHBOUR: 'it returns false'. Refute it at one input. -/
def colourTrueWrong : ChangeSpec := { name := "colourTrue", fn := fun _ => fun
  | [d1, d2, d3, d4] => { results := [.lit (.bool false)], args := [d1, d2, d3, d4] }
  | _ => none }
def ColourTrueWrongFalsely : Prop := colourTrueRow.holds Try.pinned (OpenSpec.ofChange colourTrueWrong)

/- THE SECOND FORM. 'bulk': how many values and letters a reading holds, each counted each time it is reached (what is shared counts as often as it is met; a slice's spare places count too). A statement '..UptoSaid' is the law's where the arguments, and the package variables that the reading takes, are together of bulk at most 1048576: NARROWER than '..Said'. Prove '..Said' where nothing that the law and all that it calls make is longer than what came in: it says more and counts as full. Else prove '..UptoSaid'. A law counts once. -/
mutual
def uptoBulk {H : Type} : DataW H → Nat
  | .lit (.string bytes) => bytes.length + 1
  | .lit _ => 1
  | .nil => 1
  | .ptr d => uptoBulk d + 1
  | .slice elems spare => uptoBulkAll elems + uptoBulkAll spare + 1
  | .agg parts => uptoBulkAll parts + 1
  | .iface _ d => uptoBulk d + 1
  | .map entries => uptoBulkEntries entries + 1
  | .held _ => 1
def uptoBulkAll {H : Type} : List (DataW H) → Nat
  | [] => 0
  | d :: r => uptoBulk d + uptoBulkAll r
def uptoBulkEntries {H : Type} : List (Lit × DataW H) → Nat
  | [] => 0
  | x :: r => uptoBulkEntry x + uptoBulkEntries r
def uptoBulkEntry {H : Type} : Lit × DataW H → Nat
  | (.string bytes, d) => bytes.length + uptoBulk d + 1
  | (_, d) => uptoBulk d + 1
 end
def uptoSmall : (H : Type) → List (DataW H) → Bool := fun _ ds => decide (uptoBulkAll ds ≤ 1048576)
def OpenSpec.upto (s : _root_.Go.ChangeSpec) : _root_.Go.OpenSpec := { _root_.Go.OpenSpec.ofChange s with cond := some uptoSmall }

/-- 'blockworkslaw11.ColourTells', WHERE WHAT IT READS IS OF BULK AT MOST 1048576: true; the input reads as it did. -/
def colourTellsUptoRow : OpenClaim := { program := "ytlhnmpclnbpnhaa", sum := "31f2de4115ad3b8e27d9c012c5a89aad7383223dd9bb2ec327919a28411c92c6", func := "blockworks/blockworkslaw11.ColourTells", spec := "colourTells", unfollowed := true, recurses := true, plainKeys := false, apart := false, narrowed := true }
def ColourTellsUptoSaid : Prop := colourTellsUptoRow.holds Try.pinned (OpenSpec.upto colourTellsSpec)

/-- 'blockworkslaw11.ColourSets', WHERE WHAT IT READS IS OF BULK AT MOST 1048576: true; the input reads as it did. -/
def colourSetsUptoRow : OpenClaim := { program := "ytlhnmpclnbpnhaa", sum := "31f2de4115ad3b8e27d9c012c5a89aad7383223dd9bb2ec327919a28411c92c6", func := "blockworks/blockworkslaw11.ColourSets", spec := "colourSets", unfollowed := true, recurses := true, plainKeys := false, apart := false, narrowed := true }
def ColourSetsUptoSaid : Prop := colourSetsUptoRow.holds Try.pinned (OpenSpec.upto colourSetsSpec)

/-- 'blockworkslaw11.ColourNames', WHERE WHAT IT READS IS OF BULK AT MOST 1048576: true; the input reads as it did. -/
def colourNamesUptoRow : OpenClaim := { program := "ytlhnmpclnbpnhaa", sum := "31f2de4115ad3b8e27d9c012c5a89aad7383223dd9bb2ec327919a28411c92c6", func := "blockworks/blockworkslaw11.ColourNames", spec := "colourNames", unfollowed := true, recurses := true, plainKeys := false, apart := false, narrowed := true }
def ColourNamesUptoSaid : Prop := colourNamesUptoRow.holds Try.pinned (OpenSpec.upto colourNamesSpec)

/-- 'blockworkslaw11.ColourApart', WHERE WHAT IT READS IS OF BULK AT MOST 1048576: true; the input reads as it did. -/
def colourApartUptoRow : OpenClaim := { program := "ytlhnmpclnbpnhaa", sum := "31f2de4115ad3b8e27d9c012c5a89aad7383223dd9bb2ec327919a28411c92c6", func := "blockworks/blockworkslaw11.ColourApart", spec := "colourApart", unfollowed := true, recurses := true, plainKeys := false, apart := false, narrowed := true }
def ColourApartUptoSaid : Prop := colourApartUptoRow.holds Try.pinned (OpenSpec.upto colourApartSpec)

/-- 'blockworkslaw11.ColourPairs', WHERE WHAT IT READS IS OF BULK AT MOST 1048576: true; the input reads as it did. -/
def colourPairsUptoRow : OpenClaim := { program := "ytlhnmpclnbpnhaa", sum := "31f2de4115ad3b8e27d9c012c5a89aad7383223dd9bb2ec327919a28411c92c6", func := "blockworks/blockworkslaw11.ColourPairs", spec := "colourPairs", unfollowed := true, recurses := true, plainKeys := false, apart := false, narrowed := true }
def ColourPairsUptoSaid : Prop := colourPairsUptoRow.holds Try.pinned (OpenSpec.upto colourPairsSpec)

/-- 'blockworkslaw11.ColourFewest', WHERE WHAT IT READS IS OF BULK AT MOST 1048576: true; the input reads as it did. -/
def colourFewestUptoRow : OpenClaim := { program := "ytlhnmpclnbpnhaa", sum := "31f2de4115ad3b8e27d9c012c5a89aad7383223dd9bb2ec327919a28411c92c6", func := "blockworks/blockworkslaw11.ColourFewest", spec := "colourFewest", unfollowed := true, recurses := true, plainKeys := false, apart := false, narrowed := true }
def ColourFewestUptoSaid : Prop := colourFewestUptoRow.holds Try.pinned (OpenSpec.upto colourFewestSpec)

/-- 'blockworkslaw11.ColourSpare', WHERE WHAT IT READS IS OF BULK AT MOST 1048576: true; the input reads as it did. -/
def colourSpareUptoRow : OpenClaim := { program := "ytlhnmpclnbpnhaa", sum := "31f2de4115ad3b8e27d9c012c5a89aad7383223dd9bb2ec327919a28411c92c6", func := "blockworks/blockworkslaw11.ColourSpare", spec := "colourSpare", unfollowed := true, recurses := true, plainKeys := false, apart := false, narrowed := true }
def ColourSpareUptoSaid : Prop := colourSpareUptoRow.holds Try.pinned (OpenSpec.upto colourSpareSpec)

/-- 'blockworkslaw11.ColourMore', WHERE WHAT IT READS IS OF BULK AT MOST 1048576: true; the input reads as it did. -/
def colourMoreUptoRow : OpenClaim := { program := "ytlhnmpclnbpnhaa", sum := "31f2de4115ad3b8e27d9c012c5a89aad7383223dd9bb2ec327919a28411c92c6", func := "blockworks/blockworkslaw11.ColourMore", spec := "colourMore", unfollowed := true, recurses := true, plainKeys := false, apart := false, narrowed := true }
def ColourMoreUptoSaid : Prop := colourMoreUptoRow.holds Try.pinned (OpenSpec.upto colourMoreSpec)

/-- 'blockworkslaw11.ColourTrue', WHERE WHAT IT READS IS OF BULK AT MOST 1048576: true; the input reads as it did. -/
def colourTrueUptoRow : OpenClaim := { program := "ytlhnmpclnbpnhaa", sum := "31f2de4115ad3b8e27d9c012c5a89aad7383223dd9bb2ec327919a28411c92c6", func := "blockworks/blockworkslaw11.ColourTrue", spec := "colourTrue", unfollowed := true, recurses := true, plainKeys := false, apart := false, narrowed := true }
def ColourTrueUptoSaid : Prop := colourTrueUptoRow.holds Try.pinned (OpenSpec.upto colourTrueSpec)

end Rows
end Go.Proofs.Ytlhnmpclnbpnhaa
