/-
  No cell of these rows narrows 'for every input' (looked for: loops, veiled, ifaces, maps, wideKeys, modest, calm, conditions, laid).
  DERIVED. THE GIVEN ROWS OF THIS SEAT. 9 by the template 'for every input the law returns true; each argument reads behind the call as it read before'; 0 by the template 'total and deterministic' (their statements: YtipdhjdlfdbkiaaTotals.lean).
  GIVEN WITH THE SEED: the statements are not yours to turn. If you find one false, say at which input.
  Laid BY PROGRAM, IN A SANDBOX (cutbox-rows.mjs): the forced cells as the released guide's own fill.sh prints them over the translation 8f4048c86fa6d15e… (all of the seat's roots in one cut). By AI agents, Wed Nov 11 2026. No macro, syntax, notation, axiom, sorry.
-/
import Derived.Test.YtipdhjdlfdbkiaaChecked
import GoSem.Claim
import GoSem.ClaimJoined
import GoSem.ClaimMapViews
import Derived.JoinedTies
import Derived.KernelRfl
namespace Go.Proofs.Ytipdhjdlfdbkiaa
/- THE CELL 'sum', in the pinned program and in every row, IS THE sha256 OF THE DUMP (.gsa) THAT YtipdhjdlfdbkiaaProg.lean LOADS. Nothing in Lean hashes anything: it is a label: what it is worth is what the hold of that sum in a sandbox is worth. -/
noncomputable def Try.pinned : Pinned := { name := "ytipdhjdlfdbkiaa", sum := "8f4048c86fa6d15e74d2636849b10758aa19325751979c7807f6b27361873f8f", checked := Try.checked }
namespace Rows
def none {H : Type} : Left H := { results := [], args := [] }

/-- 'boscagelaw10.TrapAll': WHATEVER THE INPUT: true; the input reads as it did. -/
def trapAllSpec : ChangeSpec := { name := "trapAll", fn := fun _ => fun
  | [d1, d2, d3] => { results := [.lit (.bool true)], args := [d1, d2, d3] }
  | _ => none }
def trapAllRow : OpenClaim := { program := "ytipdhjdlfdbkiaa", sum := "8f4048c86fa6d15e74d2636849b10758aa19325751979c7807f6b27361873f8f", func := "boscage/boscagelaw10.TrapAll", spec := "trapAll", unfollowed := true, recurses := true, apart := false }
def TrapAllSaid : Prop := trapAllRow.holds Try.pinned (OpenSpec.ofChange trapAllSpec)

/-- ITS FALSE NEIGHBOUR: 'it returns false'. Refute it at one input. -/
def trapAllWrong : ChangeSpec := { name := "trapAll", fn := fun _ => fun
  | [d1, d2, d3] => { results := [.lit (.bool false)], args := [d1, d2, d3] }
  | _ => none }
def TrapAllWrongFalsely : Prop := trapAllRow.holds Try.pinned (OpenSpec.ofChange trapAllWrong)

/-- 'boscagelaw10.TrapChain': WHATEVER THE INPUT: true; the input reads as it did. -/
def trapChainSpec : ChangeSpec := { name := "trapChain", fn := fun _ => fun
  | [d1, d2, d3, d4] => { results := [.lit (.bool true)], args := [d1, d2, d3, d4] }
  | _ => none }
def trapChainRow : OpenClaim := { program := "ytipdhjdlfdbkiaa", sum := "8f4048c86fa6d15e74d2636849b10758aa19325751979c7807f6b27361873f8f", func := "boscage/boscagelaw10.TrapChain", spec := "trapChain", unfollowed := true, recurses := true, apart := false }
def TrapChainSaid : Prop := trapChainRow.holds Try.pinned (OpenSpec.ofChange trapChainSpec)

/-- ITS FALSE NEIGHBOUR: 'it returns false'. Refute it at one input. -/
def trapChainWrong : ChangeSpec := { name := "trapChain", fn := fun _ => fun
  | [d1, d2, d3, d4] => { results := [.lit (.bool false)], args := [d1, d2, d3, d4] }
  | _ => none }
def TrapChainWrongFalsely : Prop := trapChainRow.holds Try.pinned (OpenSpec.ofChange trapChainWrong)

/-- 'boscagelaw07.PairMakes': WHATEVER THE INPUT: true; the input reads as it did. -/
def pairMakesSpec : ChangeSpec := { name := "pairMakes", fn := fun _ => fun
  | [d1, d2] => { results := [.lit (.bool true)], args := [d1, d2] }
  | _ => none }
def pairMakesRow : OpenClaim := { program := "ytipdhjdlfdbkiaa", sum := "8f4048c86fa6d15e74d2636849b10758aa19325751979c7807f6b27361873f8f", func := "boscage/boscagelaw07.PairMakes", spec := "pairMakes", inPlace := ["slices.overlaps[boscage/api.Pair]"], unfollowed := true, recurses := true, apart := false }
def PairMakesSaid : Prop := pairMakesRow.holds Try.pinned (OpenSpec.ofChange pairMakesSpec)

/-- ITS FALSE NEIGHBOUR: 'it returns false'. Refute it at one input. -/
def pairMakesWrong : ChangeSpec := { name := "pairMakes", fn := fun _ => fun
  | [d1, d2] => { results := [.lit (.bool false)], args := [d1, d2] }
  | _ => none }
def PairMakesWrongFalsely : Prop := pairMakesRow.holds Try.pinned (OpenSpec.ofChange pairMakesWrong)

/-- 'boscagelaw07.PairSeeks': WHATEVER THE INPUT: true; the input reads as it did. -/
def pairSeeksSpec : ChangeSpec := { name := "pairSeeks", fn := fun _ => fun
  | [d1, d2] => { results := [.lit (.bool true)], args := [d1, d2] }
  | _ => none }
def pairSeeksRow : OpenClaim := { program := "ytipdhjdlfdbkiaa", sum := "8f4048c86fa6d15e74d2636849b10758aa19325751979c7807f6b27361873f8f", func := "boscage/boscagelaw07.PairSeeks", spec := "pairSeeks", inPlace := ["slices.overlaps[boscage/api.Pair]"], unfollowed := true, recurses := true, apart := false }
def PairSeeksSaid : Prop := pairSeeksRow.holds Try.pinned (OpenSpec.ofChange pairSeeksSpec)

/-- ITS FALSE NEIGHBOUR: 'it returns false'. Refute it at one input. -/
def pairSeeksWrong : ChangeSpec := { name := "pairSeeks", fn := fun _ => fun
  | [d1, d2] => { results := [.lit (.bool false)], args := [d1, d2] }
  | _ => none }
def PairSeeksWrongFalsely : Prop := pairSeeksRow.holds Try.pinned (OpenSpec.ofChange pairSeeksWrong)

/-- 'boscagelaw07.PairChanges': WHATEVER THE INPUT: true; the input reads as it did. -/
def pairChangesSpec : ChangeSpec := { name := "pairChanges", fn := fun _ => fun
  | [d1, d2, d3] => { results := [.lit (.bool true)], args := [d1, d2, d3] }
  | _ => none }
def pairChangesRow : OpenClaim := { program := "ytipdhjdlfdbkiaa", sum := "8f4048c86fa6d15e74d2636849b10758aa19325751979c7807f6b27361873f8f", func := "boscage/boscagelaw07.PairChanges", spec := "pairChanges", inPlace := ["slices.overlaps[boscage/api.Pair]"], unfollowed := true, recurses := true, apart := false }
def PairChangesSaid : Prop := pairChangesRow.holds Try.pinned (OpenSpec.ofChange pairChangesSpec)

/-- ITS FALSE NEIGHBOUR: 'it returns false'. Refute it at one input. -/
def pairChangesWrong : ChangeSpec := { name := "pairChanges", fn := fun _ => fun
  | [d1, d2, d3] => { results := [.lit (.bool false)], args := [d1, d2, d3] }
  | _ => none }
def PairChangesWrongFalsely : Prop := pairChangesRow.holds Try.pinned (OpenSpec.ofChange pairChangesWrong)

/-- 'boscagelaw07.PairKeeps': WHATEVER THE INPUT: true; the input reads as it did. -/
def pairKeepsSpec : ChangeSpec := { name := "pairKeeps", fn := fun _ => fun
  | [d1, d2, d3, d4] => { results := [.lit (.bool true)], args := [d1, d2, d3, d4] }
  | _ => none }
def pairKeepsRow : OpenClaim := { program := "ytipdhjdlfdbkiaa", sum := "8f4048c86fa6d15e74d2636849b10758aa19325751979c7807f6b27361873f8f", func := "boscage/boscagelaw07.PairKeeps", spec := "pairKeeps", inPlace := ["slices.overlaps[boscage/api.Pair]"], unfollowed := true, recurses := true, apart := false }
def PairKeepsSaid : Prop := pairKeepsRow.holds Try.pinned (OpenSpec.ofChange pairKeepsSpec)

/-- ITS FALSE NEIGHBOUR: 'it returns false'. Refute it at one input. -/
def pairKeepsWrong : ChangeSpec := { name := "pairKeeps", fn := fun _ => fun
  | [d1, d2, d3, d4] => { results := [.lit (.bool false)], args := [d1, d2, d3, d4] }
  | _ => none }
def PairKeepsWrongFalsely : Prop := pairKeepsRow.holds Try.pinned (OpenSpec.ofChange pairKeepsWrong)

/-- 'boscagelaw32.HistOps': WHATEVER THE INPUT: true; the input reads as it did. -/
def histOpsSpec : ChangeSpec := { name := "histOps", fn := fun _ => fun
  | [d] => { results := [.lit (.bool true)], args := [d] }
  | _ => none }
def histOpsRow : OpenClaim := { program := "ytipdhjdlfdbkiaa", sum := "8f4048c86fa6d15e74d2636849b10758aa19325751979c7807f6b27361873f8f", func := "boscage/boscagelaw32.HistOps", spec := "histOps", recurses := true, apart := false }
def HistOpsSaid : Prop := histOpsRow.holds Try.pinned (OpenSpec.ofChange histOpsSpec)

/-- ITS FALSE NEIGHBOUR: 'it returns false'. Refute it at one input. -/
def histOpsWrong : ChangeSpec := { name := "histOps", fn := fun _ => fun
  | [d] => { results := [.lit (.bool false)], args := [d] }
  | _ => none }
def HistOpsWrongFalsely : Prop := histOpsRow.holds Try.pinned (OpenSpec.ofChange histOpsWrong)

/-- 'boscagelaw32.HistAhead': WHATEVER THE INPUT: true; the input reads as it did. -/
def histAheadSpec : ChangeSpec := { name := "histAhead", fn := fun _ => fun
  | [d1, d2, d3] => { results := [.lit (.bool true)], args := [d1, d2, d3] }
  | _ => none }
def histAheadRow : OpenClaim := { program := "ytipdhjdlfdbkiaa", sum := "8f4048c86fa6d15e74d2636849b10758aa19325751979c7807f6b27361873f8f", func := "boscage/boscagelaw32.HistAhead", spec := "histAhead", recurses := true, apart := false }
def HistAheadSaid : Prop := histAheadRow.holds Try.pinned (OpenSpec.ofChange histAheadSpec)

/-- ITS FALSE NEIGHBOUR: 'it returns false'. Refute it at one input. -/
def histAheadWrong : ChangeSpec := { name := "histAhead", fn := fun _ => fun
  | [d1, d2, d3] => { results := [.lit (.bool false)], args := [d1, d2, d3] }
  | _ => none }
def HistAheadWrongFalsely : Prop := histAheadRow.holds Try.pinned (OpenSpec.ofChange histAheadWrong)

/-- 'boscagelaw32.HistAdds': WHATEVER THE INPUT: true; the input reads as it did. -/
def histAddsSpec : ChangeSpec := { name := "histAdds", fn := fun _ => fun
  | [d1, d2, d3, d4] => { results := [.lit (.bool true)], args := [d1, d2, d3, d4] }
  | _ => none }
def histAddsRow : OpenClaim := { program := "ytipdhjdlfdbkiaa", sum := "8f4048c86fa6d15e74d2636849b10758aa19325751979c7807f6b27361873f8f", func := "boscage/boscagelaw32.HistAdds", spec := "histAdds", recurses := true, apart := false }
def HistAddsSaid : Prop := histAddsRow.holds Try.pinned (OpenSpec.ofChange histAddsSpec)

/-- ITS FALSE NEIGHBOUR: 'it returns false'. Refute it at one input. -/
def histAddsWrong : ChangeSpec := { name := "histAdds", fn := fun _ => fun
  | [d1, d2, d3, d4] => { results := [.lit (.bool false)], args := [d1, d2, d3, d4] }
  | _ => none }
def HistAddsWrongFalsely : Prop := histAddsRow.holds Try.pinned (OpenSpec.ofChange histAddsWrong)

/- THE SECOND FORM. 'bulk': how many values and letters a reading holds, each counted each time it is reached (what is shared counts as often as it is met; a slice's spare places count too). A statement '..UptoSaid' is the law's where the arguments, and the package variables that the reading takes, are together of bulk at most 1048576: NARROWER than '..Said'. Prove '..Said' where nothing that the law and all that it calls make is longer than what came in: it says more and counts as full. Else prove '..UptoSaid'. A law counts once. -/
mutual
def uptoBulk {H : Type} : DataW H → Nat
  | .lit (.string bytes) => bytes.length + 1
  | .lit _ => 1
  | .nil => 1
  | .ptr d => uptoBulk d + 1
  | .slice elems spare => uptoBulkAll elems + uptoBulkAll spare + 1
  | .agg parts => uptoBulkAll parts + 1
  | .iface _ d => uptoBulk d + 1
  | .map entries => uptoBulkEntries entries + 1
  | .held _ => 1
def uptoBulkAll {H : Type} : List (DataW H) → Nat
  | [] => 0
  | d :: r => uptoBulk d + uptoBulkAll r
def uptoBulkEntries {H : Type} : List (Lit × DataW H) → Nat
  | [] => 0
  | x :: r => uptoBulkEntry x + uptoBulkEntries r
def uptoBulkEntry {H : Type} : Lit × DataW H → Nat
  | (.string bytes, d) => bytes.length + uptoBulk d + 1
  | (_, d) => uptoBulk d + 1
 end
def uptoSmall : (H : Type) → List (DataW H) → Bool := fun _ ds => decide (uptoBulkAll ds ≤ 1048576)
def OpenSpec.upto (s : _root_.Go.ChangeSpec) : _root_.Go.OpenSpec := { _root_.Go.OpenSpec.ofChange s with cond := some uptoSmall }

/-- 'boscagelaw10.TrapAll', WHERE WHAT IT READS IS OF BULK AT MOST 1048576: true; the input reads as it did. -/
def trapAllUptoRow : OpenClaim := { program := "ytipdhjdlfdbkiaa", sum := "8f4048c86fa6d15e74d2636849b10758aa19325751979c7807f6b27361873f8f", func := "boscage/boscagelaw10.TrapAll", spec := "trapAll", unfollowed := true, recurses := true, apart := false, narrowed := true }
def TrapAllUptoSaid : Prop := trapAllUptoRow.holds Try.pinned (OpenSpec.upto trapAllSpec)

/-- 'boscagelaw10.TrapChain', WHERE WHAT IT READS IS OF BULK AT MOST 1048576: true; the input reads as it did. -/
def trapChainUptoRow : OpenClaim := { program := "ytipdhjdlfdbkiaa", sum := "8f4048c86fa6d15e74d2636849b10758aa19325751979c7807f6b27361873f8f", func := "boscage/boscagelaw10.TrapChain", spec := "trapChain", unfollowed := true, recurses := true, apart := false, narrowed := true }
def TrapChainUptoSaid : Prop := trapChainUptoRow.holds Try.pinned (OpenSpec.upto trapChainSpec)

/-- 'boscagelaw07.PairMakes', WHERE WHAT IT READS IS OF BULK AT MOST 1048576: true; the input reads as it did. -/
def pairMakesUptoRow : OpenClaim := { program := "ytipdhjdlfdbkiaa", sum := "8f4048c86fa6d15e74d2636849b10758aa19325751979c7807f6b27361873f8f", func := "boscage/boscagelaw07.PairMakes", spec := "pairMakes", inPlace := ["slices.overlaps[boscage/api.Pair]"], unfollowed := true, recurses := true, apart := false, narrowed := true }
def PairMakesUptoSaid : Prop := pairMakesUptoRow.holds Try.pinned (OpenSpec.upto pairMakesSpec)

/-- 'boscagelaw07.PairSeeks', WHERE WHAT IT READS IS OF BULK AT MOST 1048576: true; the input reads as it did. -/
def pairSeeksUptoRow : OpenClaim := { program := "ytipdhjdlfdbkiaa", sum := "8f4048c86fa6d15e74d2636849b10758aa19325751979c7807f6b27361873f8f", func := "boscage/boscagelaw07.PairSeeks", spec := "pairSeeks", inPlace := ["slices.overlaps[boscage/api.Pair]"], unfollowed := true, recurses := true, apart := false, narrowed := true }
def PairSeeksUptoSaid : Prop := pairSeeksUptoRow.holds Try.pinned (OpenSpec.upto pairSeeksSpec)

/-- 'boscagelaw07.PairChanges', WHERE WHAT IT READS IS OF BULK AT MOST 1048576: true; the input reads as it did. -/
def pairChangesUptoRow : OpenClaim := { program := "ytipdhjdlfdbkiaa", sum := "8f4048c86fa6d15e74d2636849b10758aa19325751979c7807f6b27361873f8f", func := "boscage/boscagelaw07.PairChanges", spec := "pairChanges", inPlace := ["slices.overlaps[boscage/api.Pair]"], unfollowed := true, recurses := true, apart := false, narrowed := true }
def PairChangesUptoSaid : Prop := pairChangesUptoRow.holds Try.pinned (OpenSpec.upto pairChangesSpec)

/-- 'boscagelaw07.PairKeeps', WHERE WHAT IT READS IS OF BULK AT MOST 1048576: true; the input reads as it did. -/
def pairKeepsUptoRow : OpenClaim := { program := "ytipdhjdlfdbkiaa", sum := "8f4048c86fa6d15e74d2636849b10758aa19325751979c7807f6b27361873f8f", func := "boscage/boscagelaw07.PairKeeps", spec := "pairKeeps", inPlace := ["slices.overlaps[boscage/api.Pair]"], unfollowed := true, recurses := true, apart := false, narrowed := true }
def PairKeepsUptoSaid : Prop := pairKeepsUptoRow.holds Try.pinned (OpenSpec.upto pairKeepsSpec)

/-- 'boscagelaw32.HistOps', WHERE WHAT IT READS IS OF BULK AT MOST 1048576: true; the input reads as it did. -/
def histOpsUptoRow : OpenClaim := { program := "ytipdhjdlfdbkiaa", sum := "8f4048c86fa6d15e74d2636849b10758aa19325751979c7807f6b27361873f8f", func := "boscage/boscagelaw32.HistOps", spec := "histOps", recurses := true, apart := false, narrowed := true }
def HistOpsUptoSaid : Prop := histOpsUptoRow.holds Try.pinned (OpenSpec.upto histOpsSpec)

/-- 'boscagelaw32.HistAhead', WHERE WHAT IT READS IS OF BULK AT MOST 1048576: true; the input reads as it did. -/
def histAheadUptoRow : OpenClaim := { program := "ytipdhjdlfdbkiaa", sum := "8f4048c86fa6d15e74d2636849b10758aa19325751979c7807f6b27361873f8f", func := "boscage/boscagelaw32.HistAhead", spec := "histAhead", recurses := true, apart := false, narrowed := true }
def HistAheadUptoSaid : Prop := histAheadUptoRow.holds Try.pinned (OpenSpec.upto histAheadSpec)

/-- 'boscagelaw32.HistAdds', WHERE WHAT IT READS IS OF BULK AT MOST 1048576: true; the input reads as it did. -/
def histAddsUptoRow : OpenClaim := { program := "ytipdhjdlfdbkiaa", sum := "8f4048c86fa6d15e74d2636849b10758aa19325751979c7807f6b27361873f8f", func := "boscage/boscagelaw32.HistAdds", spec := "histAdds", recurses := true, apart := false, narrowed := true }
def HistAddsUptoSaid : Prop := histAddsUptoRow.holds Try.pinned (OpenSpec.upto histAddsSpec)

end Rows
end Go.Proofs.Ytipdhjdlfdbkiaa
