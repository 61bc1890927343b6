/-
  No cell of these rows narrows 'for every input' (looked for: loops, veiled, ifaces, maps, wideKeys, modest, calm, conditions, laid).
  DERIVED. THE GIVEN ROWS OF THIS SEAT. 5 by the template 'for every input the law returns true; each argument reads behind the call as it read before'; 0 by the template 'total and deterministic' (their statements: YtocfeeecgpklnaaTotals.lean).
  GIVEN WITH THE SEED: the statements are not yours to turn. If you find one false, say at which input.
  Laid BY PROGRAM, IN A SANDBOX (cutbox-rows.mjs): the forced cells as the released guide's own fill.sh prints them over the translation 8a7cc64a4813539f… (all of the seat's roots in one cut). By AI agents, Wed Nov 11 2026. No macro, syntax, notation, axiom, sorry.
-/
import Derived.Test.YtocfeeecgpklnaaChecked
import GoSem.Claim
import GoSem.ClaimJoined
import GoSem.ClaimMapViews
import Derived.JoinedTies
import Derived.KernelRfl
namespace Go.Proofs.Ytocfeeecgpklnaa
/- THE CELL 'sum', in the pinned program and in every row, IS THE sha256 OF THE DUMP (.gsa) THAT YtocfeeecgpklnaaProg.lean LOADS. Nothing in Lean hashes anything: it is a label: what it is worth is what the hold of that sum in a sandbox is worth. -/
noncomputable def Try.pinned : Pinned := { name := "ytocfeeecgpklnaa", sum := "8a7cc64a4813539f0f19c3c8bab5a493050f1ec5afd327738299e98824d2d650", checked := Try.checked }
namespace Rows
def none {H : Type} : Left H := { results := [], args := [] }

/-- 'coupletlaw23.TxnTakes': WHATEVER THE INPUT: true; the input reads as it did. -/
def txnTakesSpec : ChangeSpec := { name := "txnTakes", fn := fun _ => fun
  | [d1, d2] => { results := [.lit (.bool true)], args := [d1, d2] }
  | _ => none }
def txnTakesRow : OpenClaim := { program := "ytocfeeecgpklnaa", sum := "8a7cc64a4813539f0f19c3c8bab5a493050f1ec5afd327738299e98824d2d650", func := "couplet/coupletlaw23.TxnTakes", spec := "txnTakes", unfollowed := true, recurses := true, apart := false }
def TxnTakesSaid : Prop := txnTakesRow.holds Try.pinned (OpenSpec.ofChange txnTakesSpec)

/-- ITS FALSE NEIGHBOUR: 'it returns false'. Refute it at one input. -/
def txnTakesWrong : ChangeSpec := { name := "txnTakes", fn := fun _ => fun
  | [d1, d2] => { results := [.lit (.bool false)], args := [d1, d2] }
  | _ => none }
def TxnTakesWrongFalsely : Prop := txnTakesRow.holds Try.pinned (OpenSpec.ofChange txnTakesWrong)

/-- 'coupletlaw23.TxnLast': WHATEVER THE INPUT: true; the input reads as it did. -/
def txnLastSpec : ChangeSpec := { name := "txnLast", fn := fun _ => fun
  | [d] => { results := [.lit (.bool true)], args := [d] }
  | _ => none }
def txnLastRow : OpenClaim := { program := "ytocfeeecgpklnaa", sum := "8a7cc64a4813539f0f19c3c8bab5a493050f1ec5afd327738299e98824d2d650", func := "couplet/coupletlaw23.TxnLast", spec := "txnLast", inPlace := ["slices.overlaps[couplet/api.Rec]"], unfollowed := true, recurses := true, apart := false }
def TxnLastSaid : Prop := txnLastRow.holds Try.pinned (OpenSpec.ofChange txnLastSpec)

/-- ITS FALSE NEIGHBOUR: 'it returns false'. Refute it at one input. -/
def txnLastWrong : ChangeSpec := { name := "txnLast", fn := fun _ => fun
  | [d] => { results := [.lit (.bool false)], args := [d] }
  | _ => none }
def TxnLastWrongFalsely : Prop := txnLastRow.holds Try.pinned (OpenSpec.ofChange txnLastWrong)

/-- 'coupletlaw23.TxnOnce': WHATEVER THE INPUT: true; the input reads as it did. -/
def txnOnceSpec : ChangeSpec := { name := "txnOnce", fn := fun _ => fun
  | [d] => { results := [.lit (.bool true)], args := [d] }
  | _ => none }
def txnOnceRow : OpenClaim := { program := "ytocfeeecgpklnaa", sum := "8a7cc64a4813539f0f19c3c8bab5a493050f1ec5afd327738299e98824d2d650", func := "couplet/coupletlaw23.TxnOnce", spec := "txnOnce", inPlace := ["slices.overlaps[couplet/api.Rec]"], unfollowed := true, recurses := true, apart := false }
def TxnOnceSaid : Prop := txnOnceRow.holds Try.pinned (OpenSpec.ofChange txnOnceSpec)

/-- ITS FALSE NEIGHBOUR: 'it returns false'. Refute it at one input. -/
def txnOnceWrong : ChangeSpec := { name := "txnOnce", fn := fun _ => fun
  | [d] => { results := [.lit (.bool false)], args := [d] }
  | _ => none }
def TxnOnceWrongFalsely : Prop := txnOnceRow.holds Try.pinned (OpenSpec.ofChange txnOnceWrong)

/-- 'coupletlaw23.TxnPlays': WHATEVER THE INPUT: true; the input reads as it did. -/
def txnPlaysSpec : ChangeSpec := { name := "txnPlays", fn := fun _ => fun
  | [d1, d2] => { results := [.lit (.bool true)], args := [d1, d2] }
  | _ => none }
def txnPlaysRow : OpenClaim := { program := "ytocfeeecgpklnaa", sum := "8a7cc64a4813539f0f19c3c8bab5a493050f1ec5afd327738299e98824d2d650", func := "couplet/coupletlaw23.TxnPlays", spec := "txnPlays", inPlace := ["slices.overlaps[couplet/api.Rec]"], unfollowed := true, recurses := true, apart := false }
def TxnPlaysSaid : Prop := txnPlaysRow.holds Try.pinned (OpenSpec.ofChange txnPlaysSpec)

/-- ITS FALSE NEIGHBOUR: 'it returns false'. Refute it at one input. -/
def txnPlaysWrong : ChangeSpec := { name := "txnPlays", fn := fun _ => fun
  | [d1, d2] => { results := [.lit (.bool false)], args := [d1, d2] }
  | _ => none }
def TxnPlaysWrongFalsely : Prop := txnPlaysRow.holds Try.pinned (OpenSpec.ofChange txnPlaysWrong)

/-- 'coupletlaw23.TxnKnown': WHATEVER THE INPUT: true; the input reads as it did. -/
def txnKnownSpec : ChangeSpec := { name := "txnKnown", fn := fun _ => fun
  | [] => { results := [.lit (.bool true)], args := [] }
  | _ => none }
def txnKnownRow : OpenClaim := { program := "ytocfeeecgpklnaa", sum := "8a7cc64a4813539f0f19c3c8bab5a493050f1ec5afd327738299e98824d2d650", func := "couplet/coupletlaw23.TxnKnown", spec := "txnKnown", inPlace := ["slices.overlaps[couplet/api.Rec]"], unfollowed := true, recurses := true, apart := false }
def TxnKnownSaid : Prop := txnKnownRow.holds Try.pinned (OpenSpec.ofChange txnKnownSpec)

/-- ITS FALSE NEIGHBOUR: 'it returns false'. Refute it at one input. -/
def txnKnownWrong : ChangeSpec := { name := "txnKnown", fn := fun _ => fun
  | [] => { results := [.lit (.bool false)], args := [] }
  | _ => none }
def TxnKnownWrongFalsely : Prop := txnKnownRow.holds Try.pinned (OpenSpec.ofChange txnKnownWrong)

/- THE SECOND FORM. 'bulk': how many values and letters a reading holds, each counted each time it is reached (what is shared counts as often as it is met; a slice's spare places count too). A statement '..UptoSaid' is the law's where the arguments, and the package variables that the reading takes, are together of bulk at most 1048576: NARROWER than '..Said'. Prove '..Said' where nothing that the law and all that it calls make is longer than what came in: it says more and counts as full. Else prove '..UptoSaid'. A law counts once. -/
mutual
def uptoBulk {H : Type} : DataW H → Nat
  | .lit (.string bytes) => bytes.length + 1
  | .lit _ => 1
  | .nil => 1
  | .ptr d => uptoBulk d + 1
  | .slice elems spare => uptoBulkAll elems + uptoBulkAll spare + 1
  | .agg parts => uptoBulkAll parts + 1
  | .iface _ d => uptoBulk d + 1
  | .map entries => uptoBulkEntries entries + 1
  | .held _ => 1
def uptoBulkAll {H : Type} : List (DataW H) → Nat
  | [] => 0
  | d :: r => uptoBulk d + uptoBulkAll r
def uptoBulkEntries {H : Type} : List (Lit × DataW H) → Nat
  | [] => 0
  | x :: r => uptoBulkEntry x + uptoBulkEntries r
def uptoBulkEntry {H : Type} : Lit × DataW H → Nat
  | (.string bytes, d) => bytes.length + uptoBulk d + 1
  | (_, d) => uptoBulk d + 1
 end
def uptoSmall : (H : Type) → List (DataW H) → Bool := fun _ ds => decide (uptoBulkAll ds ≤ 1048576)
def OpenSpec.upto (s : _root_.Go.ChangeSpec) : _root_.Go.OpenSpec := { _root_.Go.OpenSpec.ofChange s with cond := some uptoSmall }

/-- 'coupletlaw23.TxnTakes', WHERE WHAT IT READS IS OF BULK AT MOST 1048576: true; the input reads as it did. -/
def txnTakesUptoRow : OpenClaim := { program := "ytocfeeecgpklnaa", sum := "8a7cc64a4813539f0f19c3c8bab5a493050f1ec5afd327738299e98824d2d650", func := "couplet/coupletlaw23.TxnTakes", spec := "txnTakes", unfollowed := true, recurses := true, apart := false, narrowed := true }
def TxnTakesUptoSaid : Prop := txnTakesUptoRow.holds Try.pinned (OpenSpec.upto txnTakesSpec)

/-- 'coupletlaw23.TxnLast', WHERE WHAT IT READS IS OF BULK AT MOST 1048576: true; the input reads as it did. -/
def txnLastUptoRow : OpenClaim := { program := "ytocfeeecgpklnaa", sum := "8a7cc64a4813539f0f19c3c8bab5a493050f1ec5afd327738299e98824d2d650", func := "couplet/coupletlaw23.TxnLast", spec := "txnLast", inPlace := ["slices.overlaps[couplet/api.Rec]"], unfollowed := true, recurses := true, apart := false, narrowed := true }
def TxnLastUptoSaid : Prop := txnLastUptoRow.holds Try.pinned (OpenSpec.upto txnLastSpec)

/-- 'coupletlaw23.TxnOnce', WHERE WHAT IT READS IS OF BULK AT MOST 1048576: true; the input reads as it did. -/
def txnOnceUptoRow : OpenClaim := { program := "ytocfeeecgpklnaa", sum := "8a7cc64a4813539f0f19c3c8bab5a493050f1ec5afd327738299e98824d2d650", func := "couplet/coupletlaw23.TxnOnce", spec := "txnOnce", inPlace := ["slices.overlaps[couplet/api.Rec]"], unfollowed := true, recurses := true, apart := false, narrowed := true }
def TxnOnceUptoSaid : Prop := txnOnceUptoRow.holds Try.pinned (OpenSpec.upto txnOnceSpec)

/-- 'coupletlaw23.TxnPlays', WHERE WHAT IT READS IS OF BULK AT MOST 1048576: true; the input reads as it did. -/
def txnPlaysUptoRow : OpenClaim := { program := "ytocfeeecgpklnaa", sum := "8a7cc64a4813539f0f19c3c8bab5a493050f1ec5afd327738299e98824d2d650", func := "couplet/coupletlaw23.TxnPlays", spec := "txnPlays", inPlace := ["slices.overlaps[couplet/api.Rec]"], unfollowed := true, recurses := true, apart := false, narrowed := true }
def TxnPlaysUptoSaid : Prop := txnPlaysUptoRow.holds Try.pinned (OpenSpec.upto txnPlaysSpec)

/-- 'coupletlaw23.TxnKnown', WHERE WHAT IT READS IS OF BULK AT MOST 1048576: true; the input reads as it did. -/
def txnKnownUptoRow : OpenClaim := { program := "ytocfeeecgpklnaa", sum := "8a7cc64a4813539f0f19c3c8bab5a493050f1ec5afd327738299e98824d2d650", func := "couplet/coupletlaw23.TxnKnown", spec := "txnKnown", inPlace := ["slices.overlaps[couplet/api.Rec]"], unfollowed := true, recurses := true, apart := false, narrowed := true }
def TxnKnownUptoSaid : Prop := txnKnownUptoRow.holds Try.pinned (OpenSpec.upto txnKnownSpec)

end Rows
end Go.Proofs.Ytocfeeecgpklnaa
