/-
  No cell of these rows narrows 'for every input' (looked for: loops, veiled, ifaces, maps, wideKeys, modest, calm, conditions, laid).
  DERIVED. THE GIVEN ROWS OF THIS SEAT. 8 by the template 'for every input the law returns true; each argument reads behind the call as it read before'; 0 by the template 'total and deterministic' (their statements: YtialecgadoepjaaTotals.lean).
  GIVEN WITH THE SEED: the statements are not yours to turn. If you find one false, say at which input.
  Laid BY PROGRAM, IN A SANDBOX (cutbox-rows.mjs): the forced cells as the released guide's own fill.sh prints them over the translation 6fea4153954a2bd9… (all of the seat's roots in one cut). By AI agents, Wed Nov 11 2026. No macro, syntax, notation, axiom, sorry.
-/
import Derived.Test.YtialecgadoepjaaChecked
import GoSem.Claim
import GoSem.ClaimJoined
import GoSem.ClaimMapViews
import Derived.JoinedTies
import Derived.KernelRfl
namespace Go.Proofs.Ytialecgadoepjaa
/- THE CELL 'sum', in the pinned program and in every row, IS THE sha256 OF THE DUMP (.gsa) THAT YtialecgadoepjaaProg.lean LOADS. Nothing in Lean hashes anything: it is a label: what it is worth is what the hold of that sum in a sandbox is worth. -/
noncomputable def Try.pinned : Pinned := { name := "ytialecgadoepjaa", sum := "6fea4153954a2bd92ea61ce4f01a50c1065eb9d44730a1988cc21a67d0d8abc4", checked := Try.checked }
namespace Rows
def none {H : Type} : Left H := { results := [], args := [] }

/-- 'ciboriumlaw21.TreeShape': WHATEVER THE INPUT: true; the input reads as it did. -/
def treeShapeSpec : ChangeSpec := { name := "treeShape", fn := fun _ => fun
  | [d] => { results := [.lit (.bool true)], args := [d] }
  | _ => none }
def treeShapeRow : OpenClaim := { program := "ytialecgadoepjaa", sum := "6fea4153954a2bd92ea61ce4f01a50c1065eb9d44730a1988cc21a67d0d8abc4", func := "ciborium/ciboriumlaw21.TreeShape", spec := "treeShape", inPlace := ["slices.overlaps[ciborium/tree.Entry[int]]", "slices.overlaps[*ciborium/tree.node[int]]"], recurses := true, apart := false }
def TreeShapeSaid : Prop := treeShapeRow.holds Try.pinned (OpenSpec.ofChange treeShapeSpec)

/-- ITS FALSE NEIGHBOUR: 'it returns false'. Refute it at one input. -/
def treeShapeWrong : ChangeSpec := { name := "treeShape", fn := fun _ => fun
  | [d] => { results := [.lit (.bool false)], args := [d] }
  | _ => none }
def TreeShapeWrongFalsely : Prop := treeShapeRow.holds Try.pinned (OpenSpec.ofChange treeShapeWrong)

/-- 'ciboriumlaw21.TreeWalks': WHATEVER THE INPUT: true; the input reads as it did. -/
def treeWalksSpec : ChangeSpec := { name := "treeWalks", fn := fun _ => fun
  | [d1, d2, d3] => { results := [.lit (.bool true)], args := [d1, d2, d3] }
  | _ => none }
def treeWalksRow : OpenClaim := { program := "ytialecgadoepjaa", sum := "6fea4153954a2bd92ea61ce4f01a50c1065eb9d44730a1988cc21a67d0d8abc4", func := "ciborium/ciboriumlaw21.TreeWalks", spec := "treeWalks", inPlace := ["slices.overlaps[ciborium/tree.Entry[int]]", "slices.overlaps[*ciborium/tree.node[int]]"], unfollowed := true, recurses := true, apart := false }
def TreeWalksSaid : Prop := treeWalksRow.holds Try.pinned (OpenSpec.ofChange treeWalksSpec)

/-- ITS FALSE NEIGHBOUR: 'it returns false'. Refute it at one input. -/
def treeWalksWrong : ChangeSpec := { name := "treeWalks", fn := fun _ => fun
  | [d1, d2, d3] => { results := [.lit (.bool false)], args := [d1, d2, d3] }
  | _ => none }
def TreeWalksWrongFalsely : Prop := treeWalksRow.holds Try.pinned (OpenSpec.ofChange treeWalksWrong)

/-- 'ciboriumlaw21.TreeApart': WHATEVER THE INPUT: true; the input reads as it did. -/
def treeApartSpec : ChangeSpec := { name := "treeApart", fn := fun _ => fun
  | [d1, d2, d3] => { results := [.lit (.bool true)], args := [d1, d2, d3] }
  | _ => none }
def treeApartRow : OpenClaim := { program := "ytialecgadoepjaa", sum := "6fea4153954a2bd92ea61ce4f01a50c1065eb9d44730a1988cc21a67d0d8abc4", func := "ciborium/ciboriumlaw21.TreeApart", spec := "treeApart", inPlace := ["slices.overlaps[ciborium/tree.Entry[int]]", "slices.overlaps[*ciborium/tree.node[int]]"], unfollowed := true, recurses := true, apart := false }
def TreeApartSaid : Prop := treeApartRow.holds Try.pinned (OpenSpec.ofChange treeApartSpec)

/-- ITS FALSE NEIGHBOUR: 'it returns false'. Refute it at one input. -/
def treeApartWrong : ChangeSpec := { name := "treeApart", fn := fun _ => fun
  | [d1, d2, d3] => { results := [.lit (.bool false)], args := [d1, d2, d3] }
  | _ => none }
def TreeApartWrongFalsely : Prop := treeApartRow.holds Try.pinned (OpenSpec.ofChange treeApartWrong)

/-- 'ciboriumlaw21.TreePlays': WHATEVER THE INPUT: true; the input reads as it did. -/
def treePlaysSpec : ChangeSpec := { name := "treePlays", fn := fun _ => fun
  | [d1, d2, d3] => { results := [.lit (.bool true)], args := [d1, d2, d3] }
  | _ => none }
def treePlaysRow : OpenClaim := { program := "ytialecgadoepjaa", sum := "6fea4153954a2bd92ea61ce4f01a50c1065eb9d44730a1988cc21a67d0d8abc4", func := "ciborium/ciboriumlaw21.TreePlays", spec := "treePlays", inPlace := ["slices.overlaps[ciborium/tree.Entry[int]]", "slices.overlaps[*ciborium/tree.node[int]]"], unfollowed := true, recurses := true, apart := false }
def TreePlaysSaid : Prop := treePlaysRow.holds Try.pinned (OpenSpec.ofChange treePlaysSpec)

/-- ITS FALSE NEIGHBOUR: 'it returns false'. Refute it at one input. -/
def treePlaysWrong : ChangeSpec := { name := "treePlays", fn := fun _ => fun
  | [d1, d2, d3] => { results := [.lit (.bool false)], args := [d1, d2, d3] }
  | _ => none }
def TreePlaysWrongFalsely : Prop := treePlaysRow.holds Try.pinned (OpenSpec.ofChange treePlaysWrong)

/-- 'ciboriumlaw21.TreeNil': WHATEVER THE INPUT: true; the input reads as it did. -/
def treeNilSpec : ChangeSpec := { name := "treeNil", fn := fun _ => fun
  | [d1, d2] => { results := [.lit (.bool true)], args := [d1, d2] }
  | _ => none }
def treeNilRow : OpenClaim := { program := "ytialecgadoepjaa", sum := "6fea4153954a2bd92ea61ce4f01a50c1065eb9d44730a1988cc21a67d0d8abc4", func := "ciborium/ciboriumlaw21.TreeNil", spec := "treeNil", inPlace := ["slices.overlaps[ciborium/tree.Entry[int]]", "slices.overlaps[*ciborium/tree.node[int]]"], unfollowed := true, recurses := true, apart := false }
def TreeNilSaid : Prop := treeNilRow.holds Try.pinned (OpenSpec.ofChange treeNilSpec)

/-- ITS FALSE NEIGHBOUR: 'it returns false'. Refute it at one input. -/
def treeNilWrong : ChangeSpec := { name := "treeNil", fn := fun _ => fun
  | [d1, d2] => { results := [.lit (.bool false)], args := [d1, d2] }
  | _ => none }
def TreeNilWrongFalsely : Prop := treeNilRow.holds Try.pinned (OpenSpec.ofChange treeNilWrong)

/-- 'ciboriumlaw24.MvccVacuums': WHATEVER THE INPUT: true; the input reads as it did. -/
def mvccVacuumsSpec : ChangeSpec := { name := "mvccVacuums", fn := fun _ => fun
  | [d] => { results := [.lit (.bool true)], args := [d] }
  | _ => none }
def mvccVacuumsRow : OpenClaim := { program := "ytialecgadoepjaa", sum := "6fea4153954a2bd92ea61ce4f01a50c1065eb9d44730a1988cc21a67d0d8abc4", func := "ciborium/ciboriumlaw24.MvccVacuums", spec := "mvccVacuums", inPlace := ["slices.overlaps[ciborium/tree.Entry[[]ciborium/api.Version]]", "slices.overlaps[*ciborium/tree.node[[]ciborium/api.Version]]"], unfollowed := true, recurses := true, apart := false }
def MvccVacuumsSaid : Prop := mvccVacuumsRow.holds Try.pinned (OpenSpec.ofChange mvccVacuumsSpec)

/-- ITS FALSE NEIGHBOUR: 'it returns false'. Refute it at one input. -/
def mvccVacuumsWrong : ChangeSpec := { name := "mvccVacuums", fn := fun _ => fun
  | [d] => { results := [.lit (.bool false)], args := [d] }
  | _ => none }
def MvccVacuumsWrongFalsely : Prop := mvccVacuumsRow.holds Try.pinned (OpenSpec.ofChange mvccVacuumsWrong)

/-- 'ciboriumlaw24.MvccStays': WHATEVER THE INPUT: true; the input reads as it did. -/
def mvccStaysSpec : ChangeSpec := { name := "mvccStays", fn := fun _ => fun
  | [d1, d2, d3] => { results := [.lit (.bool true)], args := [d1, d2, d3] }
  | _ => none }
def mvccStaysRow : OpenClaim := { program := "ytialecgadoepjaa", sum := "6fea4153954a2bd92ea61ce4f01a50c1065eb9d44730a1988cc21a67d0d8abc4", func := "ciborium/ciboriumlaw24.MvccStays", spec := "mvccStays", inPlace := ["slices.overlaps[ciborium/tree.Entry[[]ciborium/api.Version]]", "slices.overlaps[*ciborium/tree.node[[]ciborium/api.Version]]"], unfollowed := true, recurses := true, apart := false }
def MvccStaysSaid : Prop := mvccStaysRow.holds Try.pinned (OpenSpec.ofChange mvccStaysSpec)

/-- ITS FALSE NEIGHBOUR: 'it returns false'. Refute it at one input. -/
def mvccStaysWrong : ChangeSpec := { name := "mvccStays", fn := fun _ => fun
  | [d1, d2, d3] => { results := [.lit (.bool false)], args := [d1, d2, d3] }
  | _ => none }
def MvccStaysWrongFalsely : Prop := mvccStaysRow.holds Try.pinned (OpenSpec.ofChange mvccStaysWrong)

/-- 'ciboriumlaw24.MvccNil': WHATEVER THE INPUT: true; the input reads as it did. -/
def mvccNilSpec : ChangeSpec := { name := "mvccNil", fn := fun _ => fun
  | [d] => { results := [.lit (.bool true)], args := [d] }
  | _ => none }
def mvccNilRow : OpenClaim := { program := "ytialecgadoepjaa", sum := "6fea4153954a2bd92ea61ce4f01a50c1065eb9d44730a1988cc21a67d0d8abc4", func := "ciborium/ciboriumlaw24.MvccNil", spec := "mvccNil", inPlace := ["slices.overlaps[ciborium/tree.Entry[[]ciborium/api.Version]]", "slices.overlaps[*ciborium/tree.node[[]ciborium/api.Version]]"], unfollowed := true, recurses := true, apart := false }
def MvccNilSaid : Prop := mvccNilRow.holds Try.pinned (OpenSpec.ofChange mvccNilSpec)

/-- ITS FALSE NEIGHBOUR: 'it returns false'. Refute it at one input. -/
def mvccNilWrong : ChangeSpec := { name := "mvccNil", fn := fun _ => fun
  | [d] => { results := [.lit (.bool false)], args := [d] }
  | _ => none }
def MvccNilWrongFalsely : Prop := mvccNilRow.holds Try.pinned (OpenSpec.ofChange mvccNilWrong)

/- THE SECOND FORM. 'bulk': how many values and letters a reading holds, each counted each time it is reached (what is shared counts as often as it is met; a slice's spare places count too). A statement '..UptoSaid' is the law's where the arguments, and the package variables that the reading takes, are together of bulk at most 1048576: NARROWER than '..Said'. Prove '..Said' where nothing that the law and all that it calls make is longer than what came in: it says more and counts as full. Else prove '..UptoSaid'. A law counts once. -/
mutual
def uptoBulk {H : Type} : DataW H → Nat
  | .lit (.string bytes) => bytes.length + 1
  | .lit _ => 1
  | .nil => 1
  | .ptr d => uptoBulk d + 1
  | .slice elems spare => uptoBulkAll elems + uptoBulkAll spare + 1
  | .agg parts => uptoBulkAll parts + 1
  | .iface _ d => uptoBulk d + 1
  | .map entries => uptoBulkEntries entries + 1
  | .held _ => 1
def uptoBulkAll {H : Type} : List (DataW H) → Nat
  | [] => 0
  | d :: r => uptoBulk d + uptoBulkAll r
def uptoBulkEntries {H : Type} : List (Lit × DataW H) → Nat
  | [] => 0
  | x :: r => uptoBulkEntry x + uptoBulkEntries r
def uptoBulkEntry {H : Type} : Lit × DataW H → Nat
  | (.string bytes, d) => bytes.length + uptoBulk d + 1
  | (_, d) => uptoBulk d + 1
 end
def uptoSmall : (H : Type) → List (DataW H) → Bool := fun _ ds => decide (uptoBulkAll ds ≤ 1048576)
def OpenSpec.upto (s : _root_.Go.ChangeSpec) : _root_.Go.OpenSpec := { _root_.Go.OpenSpec.ofChange s with cond := some uptoSmall }

/-- 'ciboriumlaw21.TreeShape', WHERE WHAT IT READS IS OF BULK AT MOST 1048576: true; the input reads as it did. -/
def treeShapeUptoRow : OpenClaim := { program := "ytialecgadoepjaa", sum := "6fea4153954a2bd92ea61ce4f01a50c1065eb9d44730a1988cc21a67d0d8abc4", func := "ciborium/ciboriumlaw21.TreeShape", spec := "treeShape", inPlace := ["slices.overlaps[ciborium/tree.Entry[int]]", "slices.overlaps[*ciborium/tree.node[int]]"], recurses := true, apart := false, narrowed := true }
def TreeShapeUptoSaid : Prop := treeShapeUptoRow.holds Try.pinned (OpenSpec.upto treeShapeSpec)

/-- 'ciboriumlaw21.TreeWalks', WHERE WHAT IT READS IS OF BULK AT MOST 1048576: true; the input reads as it did. -/
def treeWalksUptoRow : OpenClaim := { program := "ytialecgadoepjaa", sum := "6fea4153954a2bd92ea61ce4f01a50c1065eb9d44730a1988cc21a67d0d8abc4", func := "ciborium/ciboriumlaw21.TreeWalks", spec := "treeWalks", inPlace := ["slices.overlaps[ciborium/tree.Entry[int]]", "slices.overlaps[*ciborium/tree.node[int]]"], unfollowed := true, recurses := true, apart := false, narrowed := true }
def TreeWalksUptoSaid : Prop := treeWalksUptoRow.holds Try.pinned (OpenSpec.upto treeWalksSpec)

/-- 'ciboriumlaw21.TreeApart', WHERE WHAT IT READS IS OF BULK AT MOST 1048576: true; the input reads as it did. -/
def treeApartUptoRow : OpenClaim := { program := "ytialecgadoepjaa", sum := "6fea4153954a2bd92ea61ce4f01a50c1065eb9d44730a1988cc21a67d0d8abc4", func := "ciborium/ciboriumlaw21.TreeApart", spec := "treeApart", inPlace := ["slices.overlaps[ciborium/tree.Entry[int]]", "slices.overlaps[*ciborium/tree.node[int]]"], unfollowed := true, recurses := true, apart := false, narrowed := true }
def TreeApartUptoSaid : Prop := treeApartUptoRow.holds Try.pinned (OpenSpec.upto treeApartSpec)

/-- 'ciboriumlaw21.TreePlays', WHERE WHAT IT READS IS OF BULK AT MOST 1048576: true; the input reads as it did. -/
def treePlaysUptoRow : OpenClaim := { program := "ytialecgadoepjaa", sum := "6fea4153954a2bd92ea61ce4f01a50c1065eb9d44730a1988cc21a67d0d8abc4", func := "ciborium/ciboriumlaw21.TreePlays", spec := "treePlays", inPlace := ["slices.overlaps[ciborium/tree.Entry[int]]", "slices.overlaps[*ciborium/tree.node[int]]"], unfollowed := true, recurses := true, apart := false, narrowed := true }
def TreePlaysUptoSaid : Prop := treePlaysUptoRow.holds Try.pinned (OpenSpec.upto treePlaysSpec)

/-- 'ciboriumlaw21.TreeNil', WHERE WHAT IT READS IS OF BULK AT MOST 1048576: true; the input reads as it did. -/
def treeNilUptoRow : OpenClaim := { program := "ytialecgadoepjaa", sum := "6fea4153954a2bd92ea61ce4f01a50c1065eb9d44730a1988cc21a67d0d8abc4", func := "ciborium/ciboriumlaw21.TreeNil", spec := "treeNil", inPlace := ["slices.overlaps[ciborium/tree.Entry[int]]", "slices.overlaps[*ciborium/tree.node[int]]"], unfollowed := true, recurses := true, apart := false, narrowed := true }
def TreeNilUptoSaid : Prop := treeNilUptoRow.holds Try.pinned (OpenSpec.upto treeNilSpec)

/-- 'ciboriumlaw24.MvccVacuums', WHERE WHAT IT READS IS OF BULK AT MOST 1048576: true; the input reads as it did. -/
def mvccVacuumsUptoRow : OpenClaim := { program := "ytialecgadoepjaa", sum := "6fea4153954a2bd92ea61ce4f01a50c1065eb9d44730a1988cc21a67d0d8abc4", func := "ciborium/ciboriumlaw24.MvccVacuums", spec := "mvccVacuums", inPlace := ["slices.overlaps[ciborium/tree.Entry[[]ciborium/api.Version]]", "slices.overlaps[*ciborium/tree.node[[]ciborium/api.Version]]"], unfollowed := true, recurses := true, apart := false, narrowed := true }
def MvccVacuumsUptoSaid : Prop := mvccVacuumsUptoRow.holds Try.pinned (OpenSpec.upto mvccVacuumsSpec)

/-- 'ciboriumlaw24.MvccStays', WHERE WHAT IT READS IS OF BULK AT MOST 1048576: true; the input reads as it did. -/
def mvccStaysUptoRow : OpenClaim := { program := "ytialecgadoepjaa", sum := "6fea4153954a2bd92ea61ce4f01a50c1065eb9d44730a1988cc21a67d0d8abc4", func := "ciborium/ciboriumlaw24.MvccStays", spec := "mvccStays", inPlace := ["slices.overlaps[ciborium/tree.Entry[[]ciborium/api.Version]]", "slices.overlaps[*ciborium/tree.node[[]ciborium/api.Version]]"], unfollowed := true, recurses := true, apart := false, narrowed := true }
def MvccStaysUptoSaid : Prop := mvccStaysUptoRow.holds Try.pinned (OpenSpec.upto mvccStaysSpec)

/-- 'ciboriumlaw24.MvccNil', WHERE WHAT IT READS IS OF BULK AT MOST 1048576: true; the input reads as it did. -/
def mvccNilUptoRow : OpenClaim := { program := "ytialecgadoepjaa", sum := "6fea4153954a2bd92ea61ce4f01a50c1065eb9d44730a1988cc21a67d0d8abc4", func := "ciborium/ciboriumlaw24.MvccNil", spec := "mvccNil", inPlace := ["slices.overlaps[ciborium/tree.Entry[[]ciborium/api.Version]]", "slices.overlaps[*ciborium/tree.node[[]ciborium/api.Version]]"], unfollowed := true, recurses := true, apart := false, narrowed := true }
def MvccNilUptoSaid : Prop := mvccNilUptoRow.holds Try.pinned (OpenSpec.upto mvccNilSpec)

end Rows
end Go.Proofs.Ytialecgadoepjaa
