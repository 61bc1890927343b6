/-
  No cell of these rows narrows 'for every input' (looked for: loops, veiled, ifaces, maps, wideKeys, modest, calm, conditions, laid).
  DERIVED. THE GIVEN ROWS OF THIS SEAT. 6 by the template 'for every input the law returns true; each argument reads behind the call as it read before'; 0 by the template 'total and deterministic' (their statements: YthofkkmnngmafaaTotals.lean).
  GIVEN WITH THE SEED: the statements are not yours to turn. If you find one false, say at which input.
  Laid BY PROGRAM, IN A SANDBOX (cutbox-rows.mjs): the forced cells as the released guide's own fill.sh prints them over the translation 5e83f80e965c6b91… (all of the seat's roots in one cut). By AI agents, Wed Nov 11 2026. No macro, syntax, notation, axiom, sorry.
-/
import Derived.Test.YthofkkmnngmafaaChecked
import GoSem.Claim
import GoSem.ClaimJoined
import GoSem.ClaimMapViews
import Derived.JoinedTies
import Derived.KernelRfl
namespace Go.Proofs.Ythofkkmnngmafaa
/- THE CELL 'sum', in the pinned program and in every row, IS THE sha256 OF THE DUMP (.gsa) THAT YthofkkmnngmafaaProg.lean LOADS. Nothing in Lean hashes anything: it is a label: what it is worth is what the hold of that sum in a sandbox is worth. -/
noncomputable def Try.pinned : Pinned := { name := "ythofkkmnngmafaa", sum := "5e83f80e965c6b9140d27dde1b21a1e481f4fe4b718968eeafd350655dc24a13", checked := Try.checked }
namespace Rows
def none {H : Type} : Left H := { results := [], args := [] }

/-- 'coupletlaw11.FenceFinds': WHATEVER THE INPUT: true; the input reads as it did. -/
def fenceFindsSpec : ChangeSpec := { name := "fenceFinds", fn := fun _ => fun
  | [d1, d2] => { results := [.lit (.bool true)], args := [d1, d2] }
  | _ => none }
def fenceFindsRow : OpenClaim := { program := "ythofkkmnngmafaa", sum := "5e83f80e965c6b9140d27dde1b21a1e481f4fe4b718968eeafd350655dc24a13", func := "couplet/coupletlaw11.FenceFinds", spec := "fenceFinds", inPlace := ["slices.overlaps[couplet/fence.child]", "slices.overlaps[string]"], unfollowed := true, recurses := true, apart := false }
def FenceFindsSaid : Prop := fenceFindsRow.holds Try.pinned (OpenSpec.ofChange fenceFindsSpec)

/-- ITS FALSE NEIGHBOUR: 'it returns false'. Refute it at one input. -/
def fenceFindsWrong : ChangeSpec := { name := "fenceFinds", fn := fun _ => fun
  | [d1, d2] => { results := [.lit (.bool false)], args := [d1, d2] }
  | _ => none }
def FenceFindsWrongFalsely : Prop := fenceFindsRow.holds Try.pinned (OpenSpec.ofChange fenceFindsWrong)

/-- 'coupletlaw11.FenceReads': WHATEVER THE INPUT: true; the input reads as it did. -/
def fenceReadsSpec : ChangeSpec := { name := "fenceReads", fn := fun _ => fun
  | [d] => { results := [.lit (.bool true)], args := [d] }
  | _ => none }
def fenceReadsRow : OpenClaim := { program := "ythofkkmnngmafaa", sum := "5e83f80e965c6b9140d27dde1b21a1e481f4fe4b718968eeafd350655dc24a13", func := "couplet/coupletlaw11.FenceReads", spec := "fenceReads", inPlace := ["slices.overlaps[couplet/fence.child]", "slices.overlaps[string]"], unfollowed := true, recurses := true, apart := false }
def FenceReadsSaid : Prop := fenceReadsRow.holds Try.pinned (OpenSpec.ofChange fenceReadsSpec)

/-- ITS FALSE NEIGHBOUR: 'it returns false'. Refute it at one input. -/
def fenceReadsWrong : ChangeSpec := { name := "fenceReads", fn := fun _ => fun
  | [d] => { results := [.lit (.bool false)], args := [d] }
  | _ => none }
def FenceReadsWrongFalsely : Prop := fenceReadsRow.holds Try.pinned (OpenSpec.ofChange fenceReadsWrong)

/-- 'coupletlaw11.FenceUndone': WHATEVER THE INPUT: true; the input reads as it did. -/
def fenceUndoneSpec : ChangeSpec := { name := "fenceUndone", fn := fun _ => fun
  | [d1, d2, d3] => { results := [.lit (.bool true)], args := [d1, d2, d3] }
  | _ => none }
def fenceUndoneRow : OpenClaim := { program := "ythofkkmnngmafaa", sum := "5e83f80e965c6b9140d27dde1b21a1e481f4fe4b718968eeafd350655dc24a13", func := "couplet/coupletlaw11.FenceUndone", spec := "fenceUndone", inPlace := ["slices.overlaps[couplet/fence.child]", "slices.overlaps[string]"], unfollowed := true, recurses := true, apart := false }
def FenceUndoneSaid : Prop := fenceUndoneRow.holds Try.pinned (OpenSpec.ofChange fenceUndoneSpec)

/-- ITS FALSE NEIGHBOUR: 'it returns false'. Refute it at one input. -/
def fenceUndoneWrong : ChangeSpec := { name := "fenceUndone", fn := fun _ => fun
  | [d1, d2, d3] => { results := [.lit (.bool false)], args := [d1, d2, d3] }
  | _ => none }
def FenceUndoneWrongFalsely : Prop := fenceUndoneRow.holds Try.pinned (OpenSpec.ofChange fenceUndoneWrong)

/-- 'coupletlaw11.FencePlays': WHATEVER THE INPUT: true; the input reads as it did. -/
def fencePlaysSpec : ChangeSpec := { name := "fencePlays", fn := fun _ => fun
  | [d1, d2] => { results := [.lit (.bool true)], args := [d1, d2] }
  | _ => none }
def fencePlaysRow : OpenClaim := { program := "ythofkkmnngmafaa", sum := "5e83f80e965c6b9140d27dde1b21a1e481f4fe4b718968eeafd350655dc24a13", func := "couplet/coupletlaw11.FencePlays", spec := "fencePlays", inPlace := ["slices.overlaps[couplet/fence.child]", "slices.overlaps[string]"], unfollowed := true, recurses := true, apart := false }
def FencePlaysSaid : Prop := fencePlaysRow.holds Try.pinned (OpenSpec.ofChange fencePlaysSpec)

/-- ITS FALSE NEIGHBOUR: 'it returns false'. Refute it at one input. -/
def fencePlaysWrong : ChangeSpec := { name := "fencePlays", fn := fun _ => fun
  | [d1, d2] => { results := [.lit (.bool false)], args := [d1, d2] }
  | _ => none }
def FencePlaysWrongFalsely : Prop := fencePlaysRow.holds Try.pinned (OpenSpec.ofChange fencePlaysWrong)

/-- 'coupletlaw11.FenceFlat': WHATEVER THE INPUT: true; the input reads as it did. -/
def fenceFlatSpec : ChangeSpec := { name := "fenceFlat", fn := fun _ => fun
  | [d1, d2] => { results := [.lit (.bool true)], args := [d1, d2] }
  | _ => none }
def fenceFlatRow : OpenClaim := { program := "ythofkkmnngmafaa", sum := "5e83f80e965c6b9140d27dde1b21a1e481f4fe4b718968eeafd350655dc24a13", func := "couplet/coupletlaw11.FenceFlat", spec := "fenceFlat", inPlace := ["slices.overlaps[couplet/fence.child]", "slices.overlaps[string]"], unfollowed := true, recurses := true, apart := false }
def FenceFlatSaid : Prop := fenceFlatRow.holds Try.pinned (OpenSpec.ofChange fenceFlatSpec)

/-- ITS FALSE NEIGHBOUR: 'it returns false'. Refute it at one input. -/
def fenceFlatWrong : ChangeSpec := { name := "fenceFlat", fn := fun _ => fun
  | [d1, d2] => { results := [.lit (.bool false)], args := [d1, d2] }
  | _ => none }
def FenceFlatWrongFalsely : Prop := fenceFlatRow.holds Try.pinned (OpenSpec.ofChange fenceFlatWrong)

/-- 'coupletlaw11.FenceKnown': WHATEVER THE INPUT: true; the input reads as it did. -/
def fenceKnownSpec : ChangeSpec := { name := "fenceKnown", fn := fun _ => fun
  | [] => { results := [.lit (.bool true)], args := [] }
  | _ => none }
def fenceKnownRow : OpenClaim := { program := "ythofkkmnngmafaa", sum := "5e83f80e965c6b9140d27dde1b21a1e481f4fe4b718968eeafd350655dc24a13", func := "couplet/coupletlaw11.FenceKnown", spec := "fenceKnown", inPlace := ["slices.overlaps[couplet/fence.child]", "slices.overlaps[string]"], unfollowed := true, recurses := true, apart := false }
def FenceKnownSaid : Prop := fenceKnownRow.holds Try.pinned (OpenSpec.ofChange fenceKnownSpec)

/-- ITS FALSE NEIGHBOUR: 'it returns false'. Refute it at one input. -/
def fenceKnownWrong : ChangeSpec := { name := "fenceKnown", fn := fun _ => fun
  | [] => { results := [.lit (.bool false)], args := [] }
  | _ => none }
def FenceKnownWrongFalsely : Prop := fenceKnownRow.holds Try.pinned (OpenSpec.ofChange fenceKnownWrong)

/- THE SECOND FORM. 'bulk': how many values and letters a reading holds, each counted each time it is reached (what is shared counts as often as it is met; a slice's spare places count too). A statement '..UptoSaid' is the law's where the arguments, and the package variables that the reading takes, are together of bulk at most 1048576: NARROWER than '..Said'. Prove '..Said' where nothing that the law and all that it calls make is longer than what came in: it says more and counts as full. Else prove '..UptoSaid'. A law counts once. -/
mutual
def uptoBulk {H : Type} : DataW H → Nat
  | .lit (.string bytes) => bytes.length + 1
  | .lit _ => 1
  | .nil => 1
  | .ptr d => uptoBulk d + 1
  | .slice elems spare => uptoBulkAll elems + uptoBulkAll spare + 1
  | .agg parts => uptoBulkAll parts + 1
  | .iface _ d => uptoBulk d + 1
  | .map entries => uptoBulkEntries entries + 1
  | .held _ => 1
def uptoBulkAll {H : Type} : List (DataW H) → Nat
  | [] => 0
  | d :: r => uptoBulk d + uptoBulkAll r
def uptoBulkEntries {H : Type} : List (Lit × DataW H) → Nat
  | [] => 0
  | x :: r => uptoBulkEntry x + uptoBulkEntries r
def uptoBulkEntry {H : Type} : Lit × DataW H → Nat
  | (.string bytes, d) => bytes.length + uptoBulk d + 1
  | (_, d) => uptoBulk d + 1
 end
def uptoSmall : (H : Type) → List (DataW H) → Bool := fun _ ds => decide (uptoBulkAll ds ≤ 1048576)
def OpenSpec.upto (s : _root_.Go.ChangeSpec) : _root_.Go.OpenSpec := { _root_.Go.OpenSpec.ofChange s with cond := some uptoSmall }

/-- 'coupletlaw11.FenceFinds', WHERE WHAT IT READS IS OF BULK AT MOST 1048576: true; the input reads as it did. -/
def fenceFindsUptoRow : OpenClaim := { program := "ythofkkmnngmafaa", sum := "5e83f80e965c6b9140d27dde1b21a1e481f4fe4b718968eeafd350655dc24a13", func := "couplet/coupletlaw11.FenceFinds", spec := "fenceFinds", inPlace := ["slices.overlaps[couplet/fence.child]", "slices.overlaps[string]"], unfollowed := true, recurses := true, apart := false, narrowed := true }
def FenceFindsUptoSaid : Prop := fenceFindsUptoRow.holds Try.pinned (OpenSpec.upto fenceFindsSpec)

/-- 'coupletlaw11.FenceReads', WHERE WHAT IT READS IS OF BULK AT MOST 1048576: true; the input reads as it did. -/
def fenceReadsUptoRow : OpenClaim := { program := "ythofkkmnngmafaa", sum := "5e83f80e965c6b9140d27dde1b21a1e481f4fe4b718968eeafd350655dc24a13", func := "couplet/coupletlaw11.FenceReads", spec := "fenceReads", inPlace := ["slices.overlaps[couplet/fence.child]", "slices.overlaps[string]"], unfollowed := true, recurses := true, apart := false, narrowed := true }
def FenceReadsUptoSaid : Prop := fenceReadsUptoRow.holds Try.pinned (OpenSpec.upto fenceReadsSpec)

/-- 'coupletlaw11.FenceUndone', WHERE WHAT IT READS IS OF BULK AT MOST 1048576: true; the input reads as it did. -/
def fenceUndoneUptoRow : OpenClaim := { program := "ythofkkmnngmafaa", sum := "5e83f80e965c6b9140d27dde1b21a1e481f4fe4b718968eeafd350655dc24a13", func := "couplet/coupletlaw11.FenceUndone", spec := "fenceUndone", inPlace := ["slices.overlaps[couplet/fence.child]", "slices.overlaps[string]"], unfollowed := true, recurses := true, apart := false, narrowed := true }
def FenceUndoneUptoSaid : Prop := fenceUndoneUptoRow.holds Try.pinned (OpenSpec.upto fenceUndoneSpec)

/-- 'coupletlaw11.FencePlays', WHERE WHAT IT READS IS OF BULK AT MOST 1048576: true; the input reads as it did. -/
def fencePlaysUptoRow : OpenClaim := { program := "ythofkkmnngmafaa", sum := "5e83f80e965c6b9140d27dde1b21a1e481f4fe4b718968eeafd350655dc24a13", func := "couplet/coupletlaw11.FencePlays", spec := "fencePlays", inPlace := ["slices.overlaps[couplet/fence.child]", "slices.overlaps[string]"], unfollowed := true, recurses := true, apart := false, narrowed := true }
def FencePlaysUptoSaid : Prop := fencePlaysUptoRow.holds Try.pinned (OpenSpec.upto fencePlaysSpec)

/-- 'coupletlaw11.FenceFlat', WHERE WHAT IT READS IS OF BULK AT MOST 1048576: true; the input reads as it did. -/
def fenceFlatUptoRow : OpenClaim := { program := "ythofkkmnngmafaa", sum := "5e83f80e965c6b9140d27dde1b21a1e481f4fe4b718968eeafd350655dc24a13", func := "couplet/coupletlaw11.FenceFlat", spec := "fenceFlat", inPlace := ["slices.overlaps[couplet/fence.child]", "slices.overlaps[string]"], unfollowed := true, recurses := true, apart := false, narrowed := true }
def FenceFlatUptoSaid : Prop := fenceFlatUptoRow.holds Try.pinned (OpenSpec.upto fenceFlatSpec)

/-- 'coupletlaw11.FenceKnown', WHERE WHAT IT READS IS OF BULK AT MOST 1048576: true; the input reads as it did. -/
def fenceKnownUptoRow : OpenClaim := { program := "ythofkkmnngmafaa", sum := "5e83f80e965c6b9140d27dde1b21a1e481f4fe4b718968eeafd350655dc24a13", func := "couplet/coupletlaw11.FenceKnown", spec := "fenceKnown", inPlace := ["slices.overlaps[couplet/fence.child]", "slices.overlaps[string]"], unfollowed := true, recurses := true, apart := false, narrowed := true }
def FenceKnownUptoSaid : Prop := fenceKnownUptoRow.holds Try.pinned (OpenSpec.upto fenceKnownSpec)

end Rows
end Go.Proofs.Ythofkkmnngmafaa
