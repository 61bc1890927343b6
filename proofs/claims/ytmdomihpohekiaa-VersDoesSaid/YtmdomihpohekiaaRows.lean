/-
  No cell of these rows narrows 'for every input' (looked for: loops, veiled, ifaces, maps, wideKeys, modest, calm, conditions, laid).
  DERIVED. THE GIVEN ROWS OF THIS SEAT. 5 by the template 'for every input the law returns true; each argument reads behind the call as it read before'; 0 by the template 'total and deterministic' (their statements: YtmdomihpohekiaaTotals.lean).
  GIVEN WITH THE SEED: the statements are not yours to turn. If you find one false, say at which input.
  Laid BY PROGRAM, IN A SANDBOX (cutbox-rows.mjs): the forced cells as the released guide's own fill.sh prints them over the translation b080db27d5509272… (all of the seat's roots in one cut). By AI agents, Wed Nov 11 2026. No macro, syntax, notation, axiom, sorry.
-/
import Derived.Test.YtmdomihpohekiaaChecked
import GoSem.Claim
import GoSem.ClaimJoined
import GoSem.ClaimMapViews
import Derived.JoinedTies
import Derived.KernelRfl
namespace Go.Proofs.Ytmdomihpohekiaa
/- THE CELL 'sum', in the pinned program and in every row, IS THE sha256 OF THE DUMP (.gsa) THAT YtmdomihpohekiaaProg.lean LOADS. Nothing in Lean hashes anything: it is a label: what it is worth is what the hold of that sum in a sandbox is worth. -/
noncomputable def Try.pinned : Pinned := { name := "ytmdomihpohekiaa", sum := "b080db27d5509272d83d17f4706550812f785528ce7d83486946fca99a3171ec", checked := Try.checked }
namespace Rows
def none {H : Type} : Left H := { results := [], args := [] }

/-- 'coupletlaw16.VersDoes': WHATEVER THE INPUT: true; the input reads as it did. -/
def versDoesSpec : ChangeSpec := { name := "versDoes", fn := fun _ => fun
  | [d1, d2, d3] => { results := [.lit (.bool true)], args := [d1, d2, d3] }
  | _ => none }
def versDoesRow : OpenClaim := { program := "ytmdomihpohekiaa", sum := "b080db27d5509272d83d17f4706550812f785528ce7d83486946fca99a3171ec", func := "couplet/coupletlaw16.VersDoes", spec := "versDoes", unfollowed := true, recurses := true, apart := false }
def VersDoesSaid : Prop := versDoesRow.holds Try.pinned (OpenSpec.ofChange versDoesSpec)

/-- ITS FALSE NEIGHBOUR: 'it returns false'. Refute it at one input. -/
def versDoesWrong : ChangeSpec := { name := "versDoes", fn := fun _ => fun
  | [d1, d2, d3] => { results := [.lit (.bool false)], args := [d1, d2, d3] }
  | _ => none }
def VersDoesWrongFalsely : Prop := versDoesRow.holds Try.pinned (OpenSpec.ofChange versDoesWrong)

/-- 'coupletlaw16.VersPrunes': WHATEVER THE INPUT: true; the input reads as it did. -/
def versPrunesSpec : ChangeSpec := { name := "versPrunes", fn := fun _ => fun
  | [d1, d2, d3] => { results := [.lit (.bool true)], args := [d1, d2, d3] }
  | _ => none }
def versPrunesRow : OpenClaim := { program := "ytmdomihpohekiaa", sum := "b080db27d5509272d83d17f4706550812f785528ce7d83486946fca99a3171ec", func := "couplet/coupletlaw16.VersPrunes", spec := "versPrunes", unfollowed := true, recurses := true, apart := false }
def VersPrunesSaid : Prop := versPrunesRow.holds Try.pinned (OpenSpec.ofChange versPrunesSpec)

/-- ITS FALSE NEIGHBOUR: 'it returns false'. Refute it at one input. -/
def versPrunesWrong : ChangeSpec := { name := "versPrunes", fn := fun _ => fun
  | [d1, d2, d3] => { results := [.lit (.bool false)], args := [d1, d2, d3] }
  | _ => none }
def VersPrunesWrongFalsely : Prop := versPrunesRow.holds Try.pinned (OpenSpec.ofChange versPrunesWrong)

/-- 'coupletlaw16.VersPuts': WHATEVER THE INPUT: true; the input reads as it did. -/
def versPutsSpec : ChangeSpec := { name := "versPuts", fn := fun _ => fun
  | [d1, d2, d3] => { results := [.lit (.bool true)], args := [d1, d2, d3] }
  | _ => none }
def versPutsRow : OpenClaim := { program := "ytmdomihpohekiaa", sum := "b080db27d5509272d83d17f4706550812f785528ce7d83486946fca99a3171ec", func := "couplet/coupletlaw16.VersPuts", spec := "versPuts", unfollowed := true, recurses := true, apart := false }
def VersPutsSaid : Prop := versPutsRow.holds Try.pinned (OpenSpec.ofChange versPutsSpec)

/-- ITS FALSE NEIGHBOUR: 'it returns false'. Refute it at one input. -/
def versPutsWrong : ChangeSpec := { name := "versPuts", fn := fun _ => fun
  | [d1, d2, d3] => { results := [.lit (.bool false)], args := [d1, d2, d3] }
  | _ => none }
def VersPutsWrongFalsely : Prop := versPutsRow.holds Try.pinned (OpenSpec.ofChange versPutsWrong)

/-- 'coupletlaw16.VersMarks': WHATEVER THE INPUT: true; the input reads as it did. -/
def versMarksSpec : ChangeSpec := { name := "versMarks", fn := fun _ => fun
  | [d1, d2, d3] => { results := [.lit (.bool true)], args := [d1, d2, d3] }
  | _ => none }
def versMarksRow : OpenClaim := { program := "ytmdomihpohekiaa", sum := "b080db27d5509272d83d17f4706550812f785528ce7d83486946fca99a3171ec", func := "couplet/coupletlaw16.VersMarks", spec := "versMarks", unfollowed := true, recurses := true, apart := false }
def VersMarksSaid : Prop := versMarksRow.holds Try.pinned (OpenSpec.ofChange versMarksSpec)

/-- ITS FALSE NEIGHBOUR: 'it returns false'. Refute it at one input. -/
def versMarksWrong : ChangeSpec := { name := "versMarks", fn := fun _ => fun
  | [d1, d2, d3] => { results := [.lit (.bool false)], args := [d1, d2, d3] }
  | _ => none }
def VersMarksWrongFalsely : Prop := versMarksRow.holds Try.pinned (OpenSpec.ofChange versMarksWrong)

/-- 'coupletlaw16.VersKnown': WHATEVER THE INPUT: true; the input reads as it did. -/
def versKnownSpec : ChangeSpec := { name := "versKnown", fn := fun _ => fun
  | [] => { results := [.lit (.bool true)], args := [] }
  | _ => none }
def versKnownRow : OpenClaim := { program := "ytmdomihpohekiaa", sum := "b080db27d5509272d83d17f4706550812f785528ce7d83486946fca99a3171ec", func := "couplet/coupletlaw16.VersKnown", spec := "versKnown", unfollowed := true, recurses := true, apart := false }
def VersKnownSaid : Prop := versKnownRow.holds Try.pinned (OpenSpec.ofChange versKnownSpec)

/-- ITS FALSE NEIGHBOUR: 'it returns false'. Refute it at one input. -/
def versKnownWrong : ChangeSpec := { name := "versKnown", fn := fun _ => fun
  | [] => { results := [.lit (.bool false)], args := [] }
  | _ => none }
def VersKnownWrongFalsely : Prop := versKnownRow.holds Try.pinned (OpenSpec.ofChange versKnownWrong)

/- THE SECOND FORM. 'bulk': how many values and letters a reading holds, each counted each time it is reached (what is shared counts as often as it is met; a slice's spare places count too). A statement '..UptoSaid' is the law's where the arguments, and the package variables that the reading takes, are together of bulk at most 1048576: NARROWER than '..Said'. Prove '..Said' where nothing that the law and all that it calls make is longer than what came in: it says more and counts as full. Else prove '..UptoSaid'. A law counts once. -/
mutual
def uptoBulk {H : Type} : DataW H → Nat
  | .lit (.string bytes) => bytes.length + 1
  | .lit _ => 1
  | .nil => 1
  | .ptr d => uptoBulk d + 1
  | .slice elems spare => uptoBulkAll elems + uptoBulkAll spare + 1
  | .agg parts => uptoBulkAll parts + 1
  | .iface _ d => uptoBulk d + 1
  | .map entries => uptoBulkEntries entries + 1
  | .held _ => 1
def uptoBulkAll {H : Type} : List (DataW H) → Nat
  | [] => 0
  | d :: r => uptoBulk d + uptoBulkAll r
def uptoBulkEntries {H : Type} : List (Lit × DataW H) → Nat
  | [] => 0
  | x :: r => uptoBulkEntry x + uptoBulkEntries r
def uptoBulkEntry {H : Type} : Lit × DataW H → Nat
  | (.string bytes, d) => bytes.length + uptoBulk d + 1
  | (_, d) => uptoBulk d + 1
 end
def uptoSmall : (H : Type) → List (DataW H) → Bool := fun _ ds => decide (uptoBulkAll ds ≤ 1048576)
def OpenSpec.upto (s : _root_.Go.ChangeSpec) : _root_.Go.OpenSpec := { _root_.Go.OpenSpec.ofChange s with cond := some uptoSmall }

/-- 'coupletlaw16.VersDoes', WHERE WHAT IT READS IS OF BULK AT MOST 1048576: true; the input reads as it did. -/
def versDoesUptoRow : OpenClaim := { program := "ytmdomihpohekiaa", sum := "b080db27d5509272d83d17f4706550812f785528ce7d83486946fca99a3171ec", func := "couplet/coupletlaw16.VersDoes", spec := "versDoes", unfollowed := true, recurses := true, apart := false, narrowed := true }
def VersDoesUptoSaid : Prop := versDoesUptoRow.holds Try.pinned (OpenSpec.upto versDoesSpec)

/-- 'coupletlaw16.VersPrunes', WHERE WHAT IT READS IS OF BULK AT MOST 1048576: true; the input reads as it did. -/
def versPrunesUptoRow : OpenClaim := { program := "ytmdomihpohekiaa", sum := "b080db27d5509272d83d17f4706550812f785528ce7d83486946fca99a3171ec", func := "couplet/coupletlaw16.VersPrunes", spec := "versPrunes", unfollowed := true, recurses := true, apart := false, narrowed := true }
def VersPrunesUptoSaid : Prop := versPrunesUptoRow.holds Try.pinned (OpenSpec.upto versPrunesSpec)

/-- 'coupletlaw16.VersPuts', WHERE WHAT IT READS IS OF BULK AT MOST 1048576: true; the input reads as it did. -/
def versPutsUptoRow : OpenClaim := { program := "ytmdomihpohekiaa", sum := "b080db27d5509272d83d17f4706550812f785528ce7d83486946fca99a3171ec", func := "couplet/coupletlaw16.VersPuts", spec := "versPuts", unfollowed := true, recurses := true, apart := false, narrowed := true }
def VersPutsUptoSaid : Prop := versPutsUptoRow.holds Try.pinned (OpenSpec.upto versPutsSpec)

/-- 'coupletlaw16.VersMarks', WHERE WHAT IT READS IS OF BULK AT MOST 1048576: true; the input reads as it did. -/
def versMarksUptoRow : OpenClaim := { program := "ytmdomihpohekiaa", sum := "b080db27d5509272d83d17f4706550812f785528ce7d83486946fca99a3171ec", func := "couplet/coupletlaw16.VersMarks", spec := "versMarks", unfollowed := true, recurses := true, apart := false, narrowed := true }
def VersMarksUptoSaid : Prop := versMarksUptoRow.holds Try.pinned (OpenSpec.upto versMarksSpec)

/-- 'coupletlaw16.VersKnown', WHERE WHAT IT READS IS OF BULK AT MOST 1048576: true; the input reads as it did. -/
def versKnownUptoRow : OpenClaim := { program := "ytmdomihpohekiaa", sum := "b080db27d5509272d83d17f4706550812f785528ce7d83486946fca99a3171ec", func := "couplet/coupletlaw16.VersKnown", spec := "versKnown", unfollowed := true, recurses := true, apart := false, narrowed := true }
def VersKnownUptoSaid : Prop := versKnownUptoRow.holds Try.pinned (OpenSpec.upto versKnownSpec)

end Rows
end Go.Proofs.Ytmdomihpohekiaa
