/-
  No cell of these rows narrows 'for every input' (looked for: loops, veiled, ifaces, maps, wideKeys, modest, calm, conditions, laid).
  DERIVED. THE GIVEN ROWS OF THIS SEAT. 6 by the template 'for every input the law returns true; each argument reads behind the call as it read before'; 0 by the template 'total and deterministic' (their statements: YtialecgadoepjaaGreatTotals.lean).
  GIVEN WITH THE SEED: the statements are not yours to turn. If you find one false, say at which input.
  Laid BY PROGRAM, IN A SANDBOX (cutbox-rows.mjs): the forced cells as the released guide's own fill.sh prints them over the translation dafbace2b4713091… (all of the seat's roots in one cut). By AI agents, Wed Nov 11 2026. No macro, syntax, notation, axiom, sorry.
-/
import Derived.Test.YtialecgadoepjaaGreatChecked
import GoSem.Claim
import GoSem.ClaimJoined
import GoSem.ClaimMapViews
import Derived.JoinedTies
import Derived.KernelRfl
namespace Go.Proofs.YtialecgadoepjaaGreat
/- THE CELL 'sum', in the pinned program and in every row, IS THE sha256 OF THE DUMP (.gsa) THAT YtialecgadoepjaaGreatProg.lean LOADS. Nothing in Lean hashes anything: it is a label: what it is worth is what the hold of that sum in a sandbox is worth. -/
noncomputable def Tryz.pinned : Pinned := { name := "ytialecgadoepjaagreat", sum := "dafbace2b4713091fd6a1e4334190797c51761777c03b0ca390a718089c7d70a", checked := Tryz.checked }
namespace Rows
def none {H : Type} : Left H := { results := [], args := [] }

/-- 'ciboriumlaw24.MvccPlays': WHATEVER THE INPUT: true; the input reads as it did. -/
def mvccPlaysSpec : ChangeSpec := { name := "mvccPlays", fn := fun _ => fun
  | [d1, d2, d3, d4] => { results := [.lit (.bool true)], args := [d1, d2, d3, d4] }
  | _ => none }
def mvccPlaysRow : OpenClaim := { program := "ytialecgadoepjaagreat", sum := "dafbace2b4713091fd6a1e4334190797c51761777c03b0ca390a718089c7d70a", func := "ciborium/ciboriumlaw24.MvccPlays", spec := "mvccPlays", inPlace := ["slices.overlaps[ciborium/tree.Entry[[]ciborium/api.Version]]", "slices.overlaps[*ciborium/tree.node[[]ciborium/api.Version]]"], unfollowed := true, recurses := true, apart := false }
def MvccPlaysSaid : Prop := mvccPlaysRow.holds Tryz.pinned (OpenSpec.ofChange mvccPlaysSpec)

/-- ITS FALSE NEIGHBOUR: 'it returns false'. Refute it at one input. -/
def mvccPlaysWrong : ChangeSpec := { name := "mvccPlays", fn := fun _ => fun
  | [d1, d2, d3, d4] => { results := [.lit (.bool false)], args := [d1, d2, d3, d4] }
  | _ => none }
def MvccPlaysWrongFalsely : Prop := mvccPlaysRow.holds Tryz.pinned (OpenSpec.ofChange mvccPlaysWrong)

/-- 'ciboriumlaw28.TxnSnap': WHATEVER THE INPUT: true; the input reads as it did. -/
def txnSnapSpec : ChangeSpec := { name := "txnSnap", fn := fun _ => fun
  | [d] => { results := [.lit (.bool true)], args := [d] }
  | _ => none }
def txnSnapRow : OpenClaim := { program := "ytialecgadoepjaagreat", sum := "dafbace2b4713091fd6a1e4334190797c51761777c03b0ca390a718089c7d70a", func := "ciborium/ciboriumlaw28.TxnSnap", spec := "txnSnap", inPlace := ["sync/atomic.StoreUint64", "sync/atomic.LoadUint64", "slices.overlaps[ciborium/tree.Entry[[]ciborium/api.Version]]", "slices.overlaps[*ciborium/tree.node[[]ciborium/api.Version]]"], unfollowed := true, recurses := true, apart := false }
def TxnSnapSaid : Prop := txnSnapRow.holds Tryz.pinned (OpenSpec.ofChange txnSnapSpec)

/-- ITS FALSE NEIGHBOUR: 'it returns false'. Refute it at one input. -/
def txnSnapWrong : ChangeSpec := { name := "txnSnap", fn := fun _ => fun
  | [d] => { results := [.lit (.bool false)], args := [d] }
  | _ => none }
def TxnSnapWrongFalsely : Prop := txnSnapRow.holds Tryz.pinned (OpenSpec.ofChange txnSnapWrong)

/-- 'ciboriumlaw28.TxnNil': WHATEVER THE INPUT: true; the input reads as it did. -/
def txnNilSpec : ChangeSpec := { name := "txnNil", fn := fun _ => fun
  | [d] => { results := [.lit (.bool true)], args := [d] }
  | _ => none }
def txnNilRow : OpenClaim := { program := "ytialecgadoepjaagreat", sum := "dafbace2b4713091fd6a1e4334190797c51761777c03b0ca390a718089c7d70a", func := "ciborium/ciboriumlaw28.TxnNil", spec := "txnNil", inPlace := ["sync/atomic.StoreUint64", "sync/atomic.LoadUint64", "slices.overlaps[ciborium/tree.Entry[[]ciborium/api.Version]]", "slices.overlaps[*ciborium/tree.node[[]ciborium/api.Version]]"], unfollowed := true, recurses := true, apart := false }
def TxnNilSaid : Prop := txnNilRow.holds Tryz.pinned (OpenSpec.ofChange txnNilSpec)

/-- ITS FALSE NEIGHBOUR: 'it returns false'. Refute it at one input. -/
def txnNilWrong : ChangeSpec := { name := "txnNil", fn := fun _ => fun
  | [d] => { results := [.lit (.bool false)], args := [d] }
  | _ => none }
def TxnNilWrongFalsely : Prop := txnNilRow.holds Tryz.pinned (OpenSpec.ofChange txnNilWrong)

/-- 'ciboriumlaw28.TxnPlays': WHATEVER THE INPUT: true; the input reads as it did. -/
def txnPlaysSpec : ChangeSpec := { name := "txnPlays", fn := fun _ => fun
  | [d1, d2, d3] => { results := [.lit (.bool true)], args := [d1, d2, d3] }
  | _ => none }
def txnPlaysRow : OpenClaim := { program := "ytialecgadoepjaagreat", sum := "dafbace2b4713091fd6a1e4334190797c51761777c03b0ca390a718089c7d70a", func := "ciborium/ciboriumlaw28.TxnPlays", spec := "txnPlays", inPlace := ["sync/atomic.StoreUint64", "sync/atomic.LoadUint64", "slices.overlaps[ciborium/tree.Entry[[]ciborium/api.Version]]", "slices.overlaps[*ciborium/tree.node[[]ciborium/api.Version]]"], unfollowed := true, recurses := true, apart := false }
def TxnPlaysSaid : Prop := txnPlaysRow.holds Tryz.pinned (OpenSpec.ofChange txnPlaysSpec)

/-- ITS FALSE NEIGHBOUR: 'it returns false'. Refute it at one input. -/
def txnPlaysWrong : ChangeSpec := { name := "txnPlays", fn := fun _ => fun
  | [d1, d2, d3] => { results := [.lit (.bool false)], args := [d1, d2, d3] }
  | _ => none }
def TxnPlaysWrongFalsely : Prop := txnPlaysRow.holds Tryz.pinned (OpenSpec.ofChange txnPlaysWrong)

/-- 'ciboriumlaw29.HistoryTrue': WHATEVER THE INPUT: true; the input reads as it did. -/
def historyTrueSpec : ChangeSpec := { name := "historyTrue", fn := fun _ => fun
  | [d] => { results := [.lit (.bool true)], args := [d] }
  | _ => none }
def historyTrueRow : OpenClaim := { program := "ytialecgadoepjaagreat", sum := "dafbace2b4713091fd6a1e4334190797c51761777c03b0ca390a718089c7d70a", func := "ciborium/ciboriumlaw29.HistoryTrue", spec := "historyTrue", inPlace := ["sync/atomic.StoreUint64", "sync/atomic.LoadUint64", "slices.overlaps[ciborium/tree.Entry[[]ciborium/api.Version]]", "slices.overlaps[*ciborium/tree.node[[]ciborium/api.Version]]"], unfollowed := true, recurses := true, apart := false }
def HistoryTrueSaid : Prop := historyTrueRow.holds Tryz.pinned (OpenSpec.ofChange historyTrueSpec)

/-- ITS FALSE NEIGHBOUR: 'it returns false'. Refute it at one input. -/
def historyTrueWrong : ChangeSpec := { name := "historyTrue", fn := fun _ => fun
  | [d] => { results := [.lit (.bool false)], args := [d] }
  | _ => none }
def HistoryTrueWrongFalsely : Prop := historyTrueRow.holds Tryz.pinned (OpenSpec.ofChange historyTrueWrong)

/-- 'ciboriumlaw29.HistoryCatches': WHATEVER THE INPUT: true; the input reads as it did. -/
def historyCatchesSpec : ChangeSpec := { name := "historyCatches", fn := fun _ => fun
  | [d1, d2] => { results := [.lit (.bool true)], args := [d1, d2] }
  | _ => none }
def historyCatchesRow : OpenClaim := { program := "ytialecgadoepjaagreat", sum := "dafbace2b4713091fd6a1e4334190797c51761777c03b0ca390a718089c7d70a", func := "ciborium/ciboriumlaw29.HistoryCatches", spec := "historyCatches", inPlace := ["sync/atomic.StoreUint64", "sync/atomic.LoadUint64", "slices.overlaps[ciborium/tree.Entry[[]ciborium/api.Version]]", "slices.overlaps[*ciborium/tree.node[[]ciborium/api.Version]]"], unfollowed := true, recurses := true, apart := false }
def HistoryCatchesSaid : Prop := historyCatchesRow.holds Tryz.pinned (OpenSpec.ofChange historyCatchesSpec)

/-- ITS FALSE NEIGHBOUR: 'it returns false'. Refute it at one input. -/
def historyCatchesWrong : ChangeSpec := { name := "historyCatches", fn := fun _ => fun
  | [d1, d2] => { results := [.lit (.bool false)], args := [d1, d2] }
  | _ => none }
def HistoryCatchesWrongFalsely : Prop := historyCatchesRow.holds Tryz.pinned (OpenSpec.ofChange historyCatchesWrong)

/- THE SECOND FORM. 'bulk': how many values and letters a reading holds, each counted each time it is reached (what is shared counts as often as it is met; a slice's spare places count too). A statement '..UptoSaid' is the law's where the arguments, and the package variables that the reading takes, are together of bulk at most 1048576: NARROWER than '..Said'. Prove '..Said' where nothing that the law and all that it calls make is longer than what came in: it says more and counts as full. Else prove '..UptoSaid'. A law counts once. -/
mutual
def uptoBulk {H : Type} : DataW H → Nat
  | .lit (.string bytes) => bytes.length + 1
  | .lit _ => 1
  | .nil => 1
  | .ptr d => uptoBulk d + 1
  | .slice elems spare => uptoBulkAll elems + uptoBulkAll spare + 1
  | .agg parts => uptoBulkAll parts + 1
  | .iface _ d => uptoBulk d + 1
  | .map entries => uptoBulkEntries entries + 1
  | .held _ => 1
def uptoBulkAll {H : Type} : List (DataW H) → Nat
  | [] => 0
  | d :: r => uptoBulk d + uptoBulkAll r
def uptoBulkEntries {H : Type} : List (Lit × DataW H) → Nat
  | [] => 0
  | x :: r => uptoBulkEntry x + uptoBulkEntries r
def uptoBulkEntry {H : Type} : Lit × DataW H → Nat
  | (.string bytes, d) => bytes.length + uptoBulk d + 1
  | (_, d) => uptoBulk d + 1
 end
def uptoSmall : (H : Type) → List (DataW H) → Bool := fun _ ds => decide (uptoBulkAll ds ≤ 1048576)
def OpenSpec.upto (s : _root_.Go.ChangeSpec) : _root_.Go.OpenSpec := { _root_.Go.OpenSpec.ofChange s with cond := some uptoSmall }

/-- 'ciboriumlaw24.MvccPlays', WHERE WHAT IT READS IS OF BULK AT MOST 1048576: true; the input reads as it did. -/
def mvccPlaysUptoRow : OpenClaim := { program := "ytialecgadoepjaagreat", sum := "dafbace2b4713091fd6a1e4334190797c51761777c03b0ca390a718089c7d70a", func := "ciborium/ciboriumlaw24.MvccPlays", spec := "mvccPlays", inPlace := ["slices.overlaps[ciborium/tree.Entry[[]ciborium/api.Version]]", "slices.overlaps[*ciborium/tree.node[[]ciborium/api.Version]]"], unfollowed := true, recurses := true, apart := false, narrowed := true }
def MvccPlaysUptoSaid : Prop := mvccPlaysUptoRow.holds Tryz.pinned (OpenSpec.upto mvccPlaysSpec)

/-- 'ciboriumlaw28.TxnSnap', WHERE WHAT IT READS IS OF BULK AT MOST 1048576: true; the input reads as it did. -/
def txnSnapUptoRow : OpenClaim := { program := "ytialecgadoepjaagreat", sum := "dafbace2b4713091fd6a1e4334190797c51761777c03b0ca390a718089c7d70a", func := "ciborium/ciboriumlaw28.TxnSnap", spec := "txnSnap", inPlace := ["sync/atomic.StoreUint64", "sync/atomic.LoadUint64", "slices.overlaps[ciborium/tree.Entry[[]ciborium/api.Version]]", "slices.overlaps[*ciborium/tree.node[[]ciborium/api.Version]]"], unfollowed := true, recurses := true, apart := false, narrowed := true }
def TxnSnapUptoSaid : Prop := txnSnapUptoRow.holds Tryz.pinned (OpenSpec.upto txnSnapSpec)

/-- 'ciboriumlaw28.TxnNil', WHERE WHAT IT READS IS OF BULK AT MOST 1048576: true; the input reads as it did. -/
def txnNilUptoRow : OpenClaim := { program := "ytialecgadoepjaagreat", sum := "dafbace2b4713091fd6a1e4334190797c51761777c03b0ca390a718089c7d70a", func := "ciborium/ciboriumlaw28.TxnNil", spec := "txnNil", inPlace := ["sync/atomic.StoreUint64", "sync/atomic.LoadUint64", "slices.overlaps[ciborium/tree.Entry[[]ciborium/api.Version]]", "slices.overlaps[*ciborium/tree.node[[]ciborium/api.Version]]"], unfollowed := true, recurses := true, apart := false, narrowed := true }
def TxnNilUptoSaid : Prop := txnNilUptoRow.holds Tryz.pinned (OpenSpec.upto txnNilSpec)

/-- 'ciboriumlaw28.TxnPlays', WHERE WHAT IT READS IS OF BULK AT MOST 1048576: true; the input reads as it did. -/
def txnPlaysUptoRow : OpenClaim := { program := "ytialecgadoepjaagreat", sum := "dafbace2b4713091fd6a1e4334190797c51761777c03b0ca390a718089c7d70a", func := "ciborium/ciboriumlaw28.TxnPlays", spec := "txnPlays", inPlace := ["sync/atomic.StoreUint64", "sync/atomic.LoadUint64", "slices.overlaps[ciborium/tree.Entry[[]ciborium/api.Version]]", "slices.overlaps[*ciborium/tree.node[[]ciborium/api.Version]]"], unfollowed := true, recurses := true, apart := false, narrowed := true }
def TxnPlaysUptoSaid : Prop := txnPlaysUptoRow.holds Tryz.pinned (OpenSpec.upto txnPlaysSpec)

/-- 'ciboriumlaw29.HistoryTrue', WHERE WHAT IT READS IS OF BULK AT MOST 1048576: true; the input reads as it did. -/
def historyTrueUptoRow : OpenClaim := { program := "ytialecgadoepjaagreat", sum := "dafbace2b4713091fd6a1e4334190797c51761777c03b0ca390a718089c7d70a", func := "ciborium/ciboriumlaw29.HistoryTrue", spec := "historyTrue", inPlace := ["sync/atomic.StoreUint64", "sync/atomic.LoadUint64", "slices.overlaps[ciborium/tree.Entry[[]ciborium/api.Version]]", "slices.overlaps[*ciborium/tree.node[[]ciborium/api.Version]]"], unfollowed := true, recurses := true, apart := false, narrowed := true }
def HistoryTrueUptoSaid : Prop := historyTrueUptoRow.holds Tryz.pinned (OpenSpec.upto historyTrueSpec)

/-- 'ciboriumlaw29.HistoryCatches', WHERE WHAT IT READS IS OF BULK AT MOST 1048576: true; the input reads as it did. -/
def historyCatchesUptoRow : OpenClaim := { program := "ytialecgadoepjaagreat", sum := "dafbace2b4713091fd6a1e4334190797c51761777c03b0ca390a718089c7d70a", func := "ciborium/ciboriumlaw29.HistoryCatches", spec := "historyCatches", inPlace := ["sync/atomic.StoreUint64", "sync/atomic.LoadUint64", "slices.overlaps[ciborium/tree.Entry[[]ciborium/api.Version]]", "slices.overlaps[*ciborium/tree.node[[]ciborium/api.Version]]"], unfollowed := true, recurses := true, apart := false, narrowed := true }
def HistoryCatchesUptoSaid : Prop := historyCatchesUptoRow.holds Tryz.pinned (OpenSpec.upto historyCatchesSpec)

end Rows
end Go.Proofs.YtialecgadoepjaaGreat
