/-
  No cell of these rows narrows 'for every input' (looked for: loops, veiled, ifaces, maps, wideKeys, modest, calm, conditions, laid).
  DERIVED. THE GIVEN ROWS OF THIS SEAT. 5 by the template 'for every input the law returns true; each argument reads behind the call as it read before'; 0 by the template 'total and deterministic' (their statements: YtfgghbideoehjaaTotals.lean).
  GIVEN WITH THE SEED: the statements are not yours to turn. If you find one false, say at which input.
  Laid BY PROGRAM, IN A SANDBOX (cutbox-rows.mjs): the forced cells as the released guide's own fill.sh prints them over the translation d8bef0a4414f2e10… (all of the seat's roots in one cut). By AI agents, Wed Nov 11 2026. No macro, syntax, notation, axiom, sorry.
-/
import Derived.Test.YtfgghbideoehjaaChecked
import GoSem.Claim
import GoSem.ClaimJoined
import GoSem.ClaimMapViews
import Derived.JoinedTies
import Derived.KernelRfl
namespace Go.Proofs.Ytfgghbideoehjaa
/- THE CELL 'sum', in the pinned program and in every row, IS THE sha256 OF THE DUMP (.gsa) THAT YtfgghbideoehjaaProg.lean LOADS. Nothing in Lean hashes anything: it is a label: what it is worth is what the hold of that sum in a sandbox is worth. -/
noncomputable def Try.pinned : Pinned := { name := "ytfgghbideoehjaa", sum := "d8bef0a4414f2e10afa9ab5c7cf8ca211562a409b7568736083c37e9468f2bfc", checked := Try.checked }
namespace Rows
def none {H : Type} : Left H := { results := [], args := [] }

/-- 'threadbarelaw07.RegexFirst': WHATEVER THE INPUT: true; the input reads as it did. -/
def regexFirstSpec : ChangeSpec := { name := "regexFirst", fn := fun _ => fun
  | [d1, d2, d3, d4, d5, d6] => { results := [.lit (.bool true)], args := [d1, d2, d3, d4, d5, d6] }
  | _ => none }
def regexFirstRow : OpenClaim := { program := "ytfgghbideoehjaa", sum := "d8bef0a4414f2e10afa9ab5c7cf8ca211562a409b7568736083c37e9468f2bfc", func := "threadbare/threadbarelaw07.RegexFirst", spec := "regexFirst", inPlace := ["internal/bytealg.IndexByteString", "internal/abi.NoEscape"], unfollowed := true, recurses := true, plainKeys := false, apart := false }
def RegexFirstSaid : Prop := regexFirstRow.holds Try.pinned (OpenSpec.ofChange regexFirstSpec)

/-- ITS FALSE NEIGHBOUR: 'it returns false'. Refute it at one input. -/
def regexFirstWrong : ChangeSpec := { name := "regexFirst", fn := fun _ => fun
  | [d1, d2, d3, d4, d5, d6] => { results := [.lit (.bool false)], args := [d1, d2, d3, d4, d5, d6] }
  | _ => none }
def RegexFirstWrongFalsely : Prop := regexFirstRow.holds Try.pinned (OpenSpec.ofChange regexFirstWrong)

/-- 'threadbarelaw07.RegexChoices': WHATEVER THE INPUT: true; the input reads as it did. -/
def regexChoicesSpec : ChangeSpec := { name := "regexChoices", fn := fun _ => fun
  | [d1, d2, d3, d4] => { results := [.lit (.bool true)], args := [d1, d2, d3, d4] }
  | _ => none }
def regexChoicesRow : OpenClaim := { program := "ytfgghbideoehjaa", sum := "d8bef0a4414f2e10afa9ab5c7cf8ca211562a409b7568736083c37e9468f2bfc", func := "threadbare/threadbarelaw07.RegexChoices", spec := "regexChoices", inPlace := ["internal/bytealg.IndexByteString", "internal/abi.NoEscape"], unfollowed := true, recurses := true, plainKeys := false, apart := false }
def RegexChoicesSaid : Prop := regexChoicesRow.holds Try.pinned (OpenSpec.ofChange regexChoicesSpec)

/-- ITS FALSE NEIGHBOUR: 'it returns false'. Refute it at one input. -/
def regexChoicesWrong : ChangeSpec := { name := "regexChoices", fn := fun _ => fun
  | [d1, d2, d3, d4] => { results := [.lit (.bool false)], args := [d1, d2, d3, d4] }
  | _ => none }
def RegexChoicesWrongFalsely : Prop := regexChoicesRow.holds Try.pinned (OpenSpec.ofChange regexChoicesWrong)

/-- 'threadbarelaw07.RegexFound': WHATEVER THE INPUT: true; the input reads as it did. -/
def regexFoundSpec : ChangeSpec := { name := "regexFound", fn := fun _ => fun
  | [d1, d2, d3, d4, d5] => { results := [.lit (.bool true)], args := [d1, d2, d3, d4, d5] }
  | _ => none }
def regexFoundRow : OpenClaim := { program := "ytfgghbideoehjaa", sum := "d8bef0a4414f2e10afa9ab5c7cf8ca211562a409b7568736083c37e9468f2bfc", func := "threadbare/threadbarelaw07.RegexFound", spec := "regexFound", inPlace := ["internal/bytealg.IndexByteString", "internal/abi.NoEscape"], unfollowed := true, recurses := true, plainKeys := false, apart := false }
def RegexFoundSaid : Prop := regexFoundRow.holds Try.pinned (OpenSpec.ofChange regexFoundSpec)

/-- ITS FALSE NEIGHBOUR: 'it returns false'. Refute it at one input. -/
def regexFoundWrong : ChangeSpec := { name := "regexFound", fn := fun _ => fun
  | [d1, d2, d3, d4, d5] => { results := [.lit (.bool false)], args := [d1, d2, d3, d4, d5] }
  | _ => none }
def RegexFoundWrongFalsely : Prop := regexFoundRow.holds Try.pinned (OpenSpec.ofChange regexFoundWrong)

/-- 'threadbarelaw07.RegexParts': WHATEVER THE INPUT: true; the input reads as it did. -/
def regexPartsSpec : ChangeSpec := { name := "regexParts", fn := fun _ => fun
  | [d1, d2, d3, d4] => { results := [.lit (.bool true)], args := [d1, d2, d3, d4] }
  | _ => none }
def regexPartsRow : OpenClaim := { program := "ytfgghbideoehjaa", sum := "d8bef0a4414f2e10afa9ab5c7cf8ca211562a409b7568736083c37e9468f2bfc", func := "threadbare/threadbarelaw07.RegexParts", spec := "regexParts", inPlace := ["internal/bytealg.IndexByteString", "internal/abi.NoEscape"], unfollowed := true, recurses := true, plainKeys := false, apart := false }
def RegexPartsSaid : Prop := regexPartsRow.holds Try.pinned (OpenSpec.ofChange regexPartsSpec)

/-- ITS FALSE NEIGHBOUR: 'it returns false'. Refute it at one input. -/
def regexPartsWrong : ChangeSpec := { name := "regexParts", fn := fun _ => fun
  | [d1, d2, d3, d4] => { results := [.lit (.bool false)], args := [d1, d2, d3, d4] }
  | _ => none }
def RegexPartsWrongFalsely : Prop := regexPartsRow.holds Try.pinned (OpenSpec.ofChange regexPartsWrong)

/-- 'threadbarelaw07.RegexLiterals': WHATEVER THE INPUT: true; the input reads as it did. -/
def regexLiteralsSpec : ChangeSpec := { name := "regexLiterals", fn := fun _ => fun
  | [d1, d2, d3, d4] => { results := [.lit (.bool true)], args := [d1, d2, d3, d4] }
  | _ => none }
def regexLiteralsRow : OpenClaim := { program := "ytfgghbideoehjaa", sum := "d8bef0a4414f2e10afa9ab5c7cf8ca211562a409b7568736083c37e9468f2bfc", func := "threadbare/threadbarelaw07.RegexLiterals", spec := "regexLiterals", inPlace := ["internal/bytealg.IndexByteString", "internal/abi.NoEscape"], unfollowed := true, recurses := true, plainKeys := false, apart := false }
def RegexLiteralsSaid : Prop := regexLiteralsRow.holds Try.pinned (OpenSpec.ofChange regexLiteralsSpec)

/-- ITS FALSE NEIGHBOUR: 'it returns false'. Refute it at one input. -/
def regexLiteralsWrong : ChangeSpec := { name := "regexLiterals", fn := fun _ => fun
  | [d1, d2, d3, d4] => { results := [.lit (.bool false)], args := [d1, d2, d3, d4] }
  | _ => none }
def RegexLiteralsWrongFalsely : Prop := regexLiteralsRow.holds Try.pinned (OpenSpec.ofChange regexLiteralsWrong)

/- THE SECOND FORM. 'bulk': how many values and letters a reading holds, each counted each time it is reached (what is shared counts as often as it is met; a slice's spare places count too). A statement '..UptoSaid' is the law's where the arguments, and the package variables that the reading takes, are together of bulk at most 1048576: NARROWER than '..Said'. Prove '..Said' where nothing that the law and all that it calls make is longer than what came in: it says more and counts as full. Else prove '..UptoSaid'. A law counts once. -/
mutual
def uptoBulk {H : Type} : DataW H → Nat
  | .lit (.string bytes) => bytes.length + 1
  | .lit _ => 1
  | .nil => 1
  | .ptr d => uptoBulk d + 1
  | .slice elems spare => uptoBulkAll elems + uptoBulkAll spare + 1
  | .agg parts => uptoBulkAll parts + 1
  | .iface _ d => uptoBulk d + 1
  | .map entries => uptoBulkEntries entries + 1
  | .held _ => 1
def uptoBulkAll {H : Type} : List (DataW H) → Nat
  | [] => 0
  | d :: r => uptoBulk d + uptoBulkAll r
def uptoBulkEntries {H : Type} : List (Lit × DataW H) → Nat
  | [] => 0
  | x :: r => uptoBulkEntry x + uptoBulkEntries r
def uptoBulkEntry {H : Type} : Lit × DataW H → Nat
  | (.string bytes, d) => bytes.length + uptoBulk d + 1
  | (_, d) => uptoBulk d + 1
 end
def uptoSmall : (H : Type) → List (DataW H) → Bool := fun _ ds => decide (uptoBulkAll ds ≤ 1048576)
def OpenSpec.upto (s : _root_.Go.ChangeSpec) : _root_.Go.OpenSpec := { _root_.Go.OpenSpec.ofChange s with cond := some uptoSmall }

/-- 'threadbarelaw07.RegexFirst', WHERE WHAT IT READS IS OF BULK AT MOST 1048576: true; the input reads as it did. -/
def regexFirstUptoRow : OpenClaim := { program := "ytfgghbideoehjaa", sum := "d8bef0a4414f2e10afa9ab5c7cf8ca211562a409b7568736083c37e9468f2bfc", func := "threadbare/threadbarelaw07.RegexFirst", spec := "regexFirst", inPlace := ["internal/bytealg.IndexByteString", "internal/abi.NoEscape"], unfollowed := true, recurses := true, plainKeys := false, apart := false, narrowed := true }
def RegexFirstUptoSaid : Prop := regexFirstUptoRow.holds Try.pinned (OpenSpec.upto regexFirstSpec)

/-- 'threadbarelaw07.RegexChoices', WHERE WHAT IT READS IS OF BULK AT MOST 1048576: true; the input reads as it did. -/
def regexChoicesUptoRow : OpenClaim := { program := "ytfgghbideoehjaa", sum := "d8bef0a4414f2e10afa9ab5c7cf8ca211562a409b7568736083c37e9468f2bfc", func := "threadbare/threadbarelaw07.RegexChoices", spec := "regexChoices", inPlace := ["internal/bytealg.IndexByteString", "internal/abi.NoEscape"], unfollowed := true, recurses := true, plainKeys := false, apart := false, narrowed := true }
def RegexChoicesUptoSaid : Prop := regexChoicesUptoRow.holds Try.pinned (OpenSpec.upto regexChoicesSpec)

/-- 'threadbarelaw07.RegexFound', WHERE WHAT IT READS IS OF BULK AT MOST 1048576: true; the input reads as it did. -/
def regexFoundUptoRow : OpenClaim := { program := "ytfgghbideoehjaa", sum := "d8bef0a4414f2e10afa9ab5c7cf8ca211562a409b7568736083c37e9468f2bfc", func := "threadbare/threadbarelaw07.RegexFound", spec := "regexFound", inPlace := ["internal/bytealg.IndexByteString", "internal/abi.NoEscape"], unfollowed := true, recurses := true, plainKeys := false, apart := false, narrowed := true }
def RegexFoundUptoSaid : Prop := regexFoundUptoRow.holds Try.pinned (OpenSpec.upto regexFoundSpec)

/-- 'threadbarelaw07.RegexParts', WHERE WHAT IT READS IS OF BULK AT MOST 1048576: true; the input reads as it did. -/
def regexPartsUptoRow : OpenClaim := { program := "ytfgghbideoehjaa", sum := "d8bef0a4414f2e10afa9ab5c7cf8ca211562a409b7568736083c37e9468f2bfc", func := "threadbare/threadbarelaw07.RegexParts", spec := "regexParts", inPlace := ["internal/bytealg.IndexByteString", "internal/abi.NoEscape"], unfollowed := true, recurses := true, plainKeys := false, apart := false, narrowed := true }
def RegexPartsUptoSaid : Prop := regexPartsUptoRow.holds Try.pinned (OpenSpec.upto regexPartsSpec)

/-- 'threadbarelaw07.RegexLiterals', WHERE WHAT IT READS IS OF BULK AT MOST 1048576: true; the input reads as it did. -/
def regexLiteralsUptoRow : OpenClaim := { program := "ytfgghbideoehjaa", sum := "d8bef0a4414f2e10afa9ab5c7cf8ca211562a409b7568736083c37e9468f2bfc", func := "threadbare/threadbarelaw07.RegexLiterals", spec := "regexLiterals", inPlace := ["internal/bytealg.IndexByteString", "internal/abi.NoEscape"], unfollowed := true, recurses := true, plainKeys := false, apart := false, narrowed := true }
def RegexLiteralsUptoSaid : Prop := regexLiteralsUptoRow.holds Try.pinned (OpenSpec.upto regexLiteralsSpec)

end Rows
end Go.Proofs.Ytfgghbideoehjaa
