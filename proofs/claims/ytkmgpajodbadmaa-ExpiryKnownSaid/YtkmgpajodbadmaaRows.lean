/-
  No cell of these rows narrows 'for every input' (looked for: loops, veiled, ifaces, maps, wideKeys, modest, calm, conditions, laid).
  DERIVED. THE GIVEN ROWS OF THIS SEAT. 5 by the template 'for every input the law returns true; each argument reads behind the call as it read before'; 0 by the template 'total and deterministic' (their statements: YtkmgpajodbadmaaTotals.lean).
  GIVEN WITH THE SEED: the statements are not yours to turn. If you find one false, say at which input.
  Laid BY PROGRAM, IN A SANDBOX (cutbox-rows.mjs): the forced cells as the released guide's own fill.sh prints them over the translation a51e3f569dc3ef27… (all of the seat's roots in one cut). By AI agents, Wed Nov 11 2026. No macro, syntax, notation, axiom, sorry.
-/
import Derived.Test.YtkmgpajodbadmaaChecked
import GoSem.Claim
import GoSem.ClaimJoined
import GoSem.ClaimMapViews
import Derived.JoinedTies
import Derived.KernelRfl
namespace Go.Proofs.Ytkmgpajodbadmaa
/- THE CELL 'sum', in the pinned program and in every row, IS THE sha256 OF THE DUMP (.gsa) THAT YtkmgpajodbadmaaProg.lean LOADS. Nothing in Lean hashes anything: it is a label: what it is worth is what the hold of that sum in a sandbox is worth. -/
noncomputable def Try.pinned : Pinned := { name := "ytkmgpajodbadmaa", sum := "a51e3f569dc3ef27653a041248a952152ed674672ff00f28ee5209d18def9c51", checked := Try.checked }
namespace Rows
def none {H : Type} : Left H := { results := [], args := [] }

/-- 'lineagelaw20.HeapLast': WHATEVER THE INPUT: true; the input reads as it did. -/
def heapLastSpec : ChangeSpec := { name := "heapLast", fn := fun _ => fun
  | [d] => { results := [.lit (.bool true)], args := [d] }
  | _ => none }
def heapLastRow : OpenClaim := { program := "ytkmgpajodbadmaa", sum := "a51e3f569dc3ef27653a041248a952152ed674672ff00f28ee5209d18def9c51", func := "lineage/lineagelaw20.HeapLast", spec := "heapLast", unfollowed := true, recurses := true, apart := false }
def HeapLastSaid : Prop := heapLastRow.holds Try.pinned (OpenSpec.ofChange heapLastSpec)

/-- ITS FALSE NEIGHBOUR: 'it returns false'. Refute it at one input. -/
def heapLastWrong : ChangeSpec := { name := "heapLast", fn := fun _ => fun
  | [d] => { results := [.lit (.bool false)], args := [d] }
  | _ => none }
def HeapLastWrongFalsely : Prop := heapLastRow.holds Try.pinned (OpenSpec.ofChange heapLastWrong)

/-- 'lineagelaw20.HeapOrder': WHATEVER THE INPUT: true; the input reads as it did. -/
def heapOrderSpec : ChangeSpec := { name := "heapOrder", fn := fun _ => fun
  | [d1, d2] => { results := [.lit (.bool true)], args := [d1, d2] }
  | _ => none }
def heapOrderRow : OpenClaim := { program := "ytkmgpajodbadmaa", sum := "a51e3f569dc3ef27653a041248a952152ed674672ff00f28ee5209d18def9c51", func := "lineage/lineagelaw20.HeapOrder", spec := "heapOrder", unfollowed := true, recurses := true, apart := false }
def HeapOrderSaid : Prop := heapOrderRow.holds Try.pinned (OpenSpec.ofChange heapOrderSpec)

/-- ITS FALSE NEIGHBOUR: 'it returns false'. Refute it at one input. -/
def heapOrderWrong : ChangeSpec := { name := "heapOrder", fn := fun _ => fun
  | [d1, d2] => { results := [.lit (.bool false)], args := [d1, d2] }
  | _ => none }
def HeapOrderWrongFalsely : Prop := heapOrderRow.holds Try.pinned (OpenSpec.ofChange heapOrderWrong)

/-- 'lineagelaw20.HeapTaken': WHATEVER THE INPUT: true; the input reads as it did. -/
def heapTakenSpec : ChangeSpec := { name := "heapTaken", fn := fun _ => fun
  | [d] => { results := [.lit (.bool true)], args := [d] }
  | _ => none }
def heapTakenRow : OpenClaim := { program := "ytkmgpajodbadmaa", sum := "a51e3f569dc3ef27653a041248a952152ed674672ff00f28ee5209d18def9c51", func := "lineage/lineagelaw20.HeapTaken", spec := "heapTaken", unfollowed := true, recurses := true, apart := false }
def HeapTakenSaid : Prop := heapTakenRow.holds Try.pinned (OpenSpec.ofChange heapTakenSpec)

/-- ITS FALSE NEIGHBOUR: 'it returns false'. Refute it at one input. -/
def heapTakenWrong : ChangeSpec := { name := "heapTaken", fn := fun _ => fun
  | [d] => { results := [.lit (.bool false)], args := [d] }
  | _ => none }
def HeapTakenWrongFalsely : Prop := heapTakenRow.holds Try.pinned (OpenSpec.ofChange heapTakenWrong)

/-- 'lineagelaw21.ExpiryOrder': WHATEVER THE INPUT: true; the input reads as it did. -/
def expiryOrderSpec : ChangeSpec := { name := "expiryOrder", fn := fun _ => fun
  | [d1, d2] => { results := [.lit (.bool true)], args := [d1, d2] }
  | _ => none }
def expiryOrderRow : OpenClaim := { program := "ytkmgpajodbadmaa", sum := "a51e3f569dc3ef27653a041248a952152ed674672ff00f28ee5209d18def9c51", func := "lineage/lineagelaw21.ExpiryOrder", spec := "expiryOrder", unfollowed := true, recurses := true, apart := false }
def ExpiryOrderSaid : Prop := expiryOrderRow.holds Try.pinned (OpenSpec.ofChange expiryOrderSpec)

/-- ITS FALSE NEIGHBOUR: 'it returns false'. Refute it at one input. -/
def expiryOrderWrong : ChangeSpec := { name := "expiryOrder", fn := fun _ => fun
  | [d1, d2] => { results := [.lit (.bool false)], args := [d1, d2] }
  | _ => none }
def ExpiryOrderWrongFalsely : Prop := expiryOrderRow.holds Try.pinned (OpenSpec.ofChange expiryOrderWrong)

/-- 'lineagelaw21.ExpiryKnown': WHATEVER THE INPUT: true; the input reads as it did. -/
def expiryKnownSpec : ChangeSpec := { name := "expiryKnown", fn := fun _ => fun
  | [] => { results := [.lit (.bool true)], args := [] }
  | _ => none }
def expiryKnownRow : OpenClaim := { program := "ytkmgpajodbadmaa", sum := "a51e3f569dc3ef27653a041248a952152ed674672ff00f28ee5209d18def9c51", func := "lineage/lineagelaw21.ExpiryKnown", spec := "expiryKnown", inPlace := ["internal/reflectlite.TypeOf"], unfollowed := true, recurses := true, apart := false }
def ExpiryKnownSaid : Prop := expiryKnownRow.holds Try.pinned (OpenSpec.ofChange expiryKnownSpec)

/-- ITS FALSE NEIGHBOUR: 'it returns false'. Refute it at one input. -/
def expiryKnownWrong : ChangeSpec := { name := "expiryKnown", fn := fun _ => fun
  | [] => { results := [.lit (.bool false)], args := [] }
  | _ => none }
def ExpiryKnownWrongFalsely : Prop := expiryKnownRow.holds Try.pinned (OpenSpec.ofChange expiryKnownWrong)

/- THE SECOND FORM. 'bulk': how many values and letters a reading holds, each counted each time it is reached (what is shared counts as often as it is met; a slice's spare places count too). A statement '..UptoSaid' is the law's where the arguments, and the package variables that the reading takes, are together of bulk at most 1048576: NARROWER than '..Said'. Prove '..Said' where nothing that the law and all that it calls make is longer than what came in: it says more and counts as full. Else prove '..UptoSaid'. A law counts once. -/
mutual
def uptoBulk {H : Type} : DataW H → Nat
  | .lit (.string bytes) => bytes.length + 1
  | .lit _ => 1
  | .nil => 1
  | .ptr d => uptoBulk d + 1
  | .slice elems spare => uptoBulkAll elems + uptoBulkAll spare + 1
  | .agg parts => uptoBulkAll parts + 1
  | .iface _ d => uptoBulk d + 1
  | .map entries => uptoBulkEntries entries + 1
  | .held _ => 1
def uptoBulkAll {H : Type} : List (DataW H) → Nat
  | [] => 0
  | d :: r => uptoBulk d + uptoBulkAll r
def uptoBulkEntries {H : Type} : List (Lit × DataW H) → Nat
  | [] => 0
  | x :: r => uptoBulkEntry x + uptoBulkEntries r
def uptoBulkEntry {H : Type} : Lit × DataW H → Nat
  | (.string bytes, d) => bytes.length + uptoBulk d + 1
  | (_, d) => uptoBulk d + 1
 end
def uptoSmall : (H : Type) → List (DataW H) → Bool := fun _ ds => decide (uptoBulkAll ds ≤ 1048576)
def OpenSpec.upto (s : _root_.Go.ChangeSpec) : _root_.Go.OpenSpec := { _root_.Go.OpenSpec.ofChange s with cond := some uptoSmall }

/-- 'lineagelaw20.HeapLast', WHERE WHAT IT READS IS OF BULK AT MOST 1048576: true; the input reads as it did. -/
def heapLastUptoRow : OpenClaim := { program := "ytkmgpajodbadmaa", sum := "a51e3f569dc3ef27653a041248a952152ed674672ff00f28ee5209d18def9c51", func := "lineage/lineagelaw20.HeapLast", spec := "heapLast", unfollowed := true, recurses := true, apart := false, narrowed := true }
def HeapLastUptoSaid : Prop := heapLastUptoRow.holds Try.pinned (OpenSpec.upto heapLastSpec)

/-- 'lineagelaw20.HeapOrder', WHERE WHAT IT READS IS OF BULK AT MOST 1048576: true; the input reads as it did. -/
def heapOrderUptoRow : OpenClaim := { program := "ytkmgpajodbadmaa", sum := "a51e3f569dc3ef27653a041248a952152ed674672ff00f28ee5209d18def9c51", func := "lineage/lineagelaw20.HeapOrder", spec := "heapOrder", unfollowed := true, recurses := true, apart := false, narrowed := true }
def HeapOrderUptoSaid : Prop := heapOrderUptoRow.holds Try.pinned (OpenSpec.upto heapOrderSpec)

/-- 'lineagelaw20.HeapTaken', WHERE WHAT IT READS IS OF BULK AT MOST 1048576: true; the input reads as it did. -/
def heapTakenUptoRow : OpenClaim := { program := "ytkmgpajodbadmaa", sum := "a51e3f569dc3ef27653a041248a952152ed674672ff00f28ee5209d18def9c51", func := "lineage/lineagelaw20.HeapTaken", spec := "heapTaken", unfollowed := true, recurses := true, apart := false, narrowed := true }
def HeapTakenUptoSaid : Prop := heapTakenUptoRow.holds Try.pinned (OpenSpec.upto heapTakenSpec)

/-- 'lineagelaw21.ExpiryOrder', WHERE WHAT IT READS IS OF BULK AT MOST 1048576: true; the input reads as it did. -/
def expiryOrderUptoRow : OpenClaim := { program := "ytkmgpajodbadmaa", sum := "a51e3f569dc3ef27653a041248a952152ed674672ff00f28ee5209d18def9c51", func := "lineage/lineagelaw21.ExpiryOrder", spec := "expiryOrder", unfollowed := true, recurses := true, apart := false, narrowed := true }
def ExpiryOrderUptoSaid : Prop := expiryOrderUptoRow.holds Try.pinned (OpenSpec.upto expiryOrderSpec)

/-- 'lineagelaw21.ExpiryKnown', WHERE WHAT IT READS IS OF BULK AT MOST 1048576: true; the input reads as it did. -/
def expiryKnownUptoRow : OpenClaim := { program := "ytkmgpajodbadmaa", sum := "a51e3f569dc3ef27653a041248a952152ed674672ff00f28ee5209d18def9c51", func := "lineage/lineagelaw21.ExpiryKnown", spec := "expiryKnown", inPlace := ["internal/reflectlite.TypeOf"], unfollowed := true, recurses := true, apart := false, narrowed := true }
def ExpiryKnownUptoSaid : Prop := expiryKnownUptoRow.holds Try.pinned (OpenSpec.upto expiryKnownSpec)

end Rows
end Go.Proofs.Ytkmgpajodbadmaa
