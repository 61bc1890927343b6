/-
  No cell of these rows narrows 'for every input' (looked for: loops, veiled, ifaces, maps, wideKeys, modest, calm, conditions, laid).
  DERIVED. THE GIVEN ROWS OF THIS SEAT. 7 by the template 'for every input the law returns true; each argument reads behind the call as it read before'; 0 by the template 'total and deterministic' (their statements: YtmjbpnoemdnhbaaTotals.lean).
  GIVEN WITH THE SEED: the statements are not yours to turn. If you find one false, say at which input.
  Laid BY PROGRAM, IN A SANDBOX (cutbox-rows.mjs): the forced cells as the released guide's own fill.sh prints them over the translation 9a1ade4c529935c4… (all of the seat's roots in one cut). By AI agents, Wed Nov 11 2026. No macro, syntax, notation, axiom, sorry.
-/
import Derived.Test.YtmjbpnoemdnhbaaChecked
import GoSem.Claim
import GoSem.ClaimJoined
import GoSem.ClaimMapViews
import Derived.JoinedTies
import Derived.KernelRfl
namespace Go.Proofs.Ytmjbpnoemdnhbaa
/- THE CELL 'sum', in the pinned program and in every row, IS THE sha256 OF THE DUMP (.gsa) THAT YtmjbpnoemdnhbaaProg.lean LOADS. Nothing in Lean hashes anything: it is a label: what it is worth is what the hold of that sum in a sandbox is worth. -/
noncomputable def Try.pinned : Pinned := { name := "ytmjbpnoemdnhbaa", sum := "9a1ade4c529935c4e402aeda4fd4ff69ab3a634ebef640ef3a6a712bd8ac849e", checked := Try.checked }
namespace Rows
def none {H : Type} : Left H := { results := [], args := [] }

/-- 'coupletlaw01.WireLays': WHATEVER THE INPUT: true; the input reads as it did. -/
def wireLaysSpec : ChangeSpec := { name := "wireLays", fn := fun _ => fun
  | [d1, d2] => { results := [.lit (.bool true)], args := [d1, d2] }
  | _ => none }
def wireLaysRow : OpenClaim := { program := "ytmjbpnoemdnhbaa", sum := "9a1ade4c529935c4e402aeda4fd4ff69ab3a634ebef640ef3a6a712bd8ac849e", func := "couplet/coupletlaw01.WireLays", spec := "wireLays", unfollowed := true, recurses := true, apart := false }
def WireLaysSaid : Prop := wireLaysRow.holds Try.pinned (OpenSpec.ofChange wireLaysSpec)

/-- ITS FALSE NEIGHBOUR: 'it returns false'. Refute it at one input. -/
def wireLaysWrong : ChangeSpec := { name := "wireLays", fn := fun _ => fun
  | [d1, d2] => { results := [.lit (.bool false)], args := [d1, d2] }
  | _ => none }
def WireLaysWrongFalsely : Prop := wireLaysRow.holds Try.pinned (OpenSpec.ofChange wireLaysWrong)

/-- 'coupletlaw01.WireTakes': WHATEVER THE INPUT: true; the input reads as it did. -/
def wireTakesSpec : ChangeSpec := { name := "wireTakes", fn := fun _ => fun
  | [d1, d2, d3] => { results := [.lit (.bool true)], args := [d1, d2, d3] }
  | _ => none }
def wireTakesRow : OpenClaim := { program := "ytmjbpnoemdnhbaa", sum := "9a1ade4c529935c4e402aeda4fd4ff69ab3a634ebef640ef3a6a712bd8ac849e", func := "couplet/coupletlaw01.WireTakes", spec := "wireTakes", unfollowed := true, recurses := true, apart := false }
def WireTakesSaid : Prop := wireTakesRow.holds Try.pinned (OpenSpec.ofChange wireTakesSpec)

/-- ITS FALSE NEIGHBOUR: 'it returns false'. Refute it at one input. -/
def wireTakesWrong : ChangeSpec := { name := "wireTakes", fn := fun _ => fun
  | [d1, d2, d3] => { results := [.lit (.bool false)], args := [d1, d2, d3] }
  | _ => none }
def WireTakesWrongFalsely : Prop := wireTakesRow.holds Try.pinned (OpenSpec.ofChange wireTakesWrong)

/-- 'coupletlaw01.WireDigits': WHATEVER THE INPUT: true; the input reads as it did. -/
def wireDigitsSpec : ChangeSpec := { name := "wireDigits", fn := fun _ => fun
  | [d] => { results := [.lit (.bool true)], args := [d] }
  | _ => none }
def wireDigitsRow : OpenClaim := { program := "ytmjbpnoemdnhbaa", sum := "9a1ade4c529935c4e402aeda4fd4ff69ab3a634ebef640ef3a6a712bd8ac849e", func := "couplet/coupletlaw01.WireDigits", spec := "wireDigits", unfollowed := true, recurses := true, apart := false }
def WireDigitsSaid : Prop := wireDigitsRow.holds Try.pinned (OpenSpec.ofChange wireDigitsSpec)

/-- ITS FALSE NEIGHBOUR: 'it returns false'. Refute it at one input. -/
def wireDigitsWrong : ChangeSpec := { name := "wireDigits", fn := fun _ => fun
  | [d] => { results := [.lit (.bool false)], args := [d] }
  | _ => none }
def WireDigitsWrongFalsely : Prop := wireDigitsRow.holds Try.pinned (OpenSpec.ofChange wireDigitsWrong)

/-- 'coupletlaw01.WireRow': WHATEVER THE INPUT: true; the input reads as it did. -/
def wireRowSpec : ChangeSpec := { name := "wireRow", fn := fun _ => fun
  | [d1, d2] => { results := [.lit (.bool true)], args := [d1, d2] }
  | _ => none }
def wireRowRow : OpenClaim := { program := "ytmjbpnoemdnhbaa", sum := "9a1ade4c529935c4e402aeda4fd4ff69ab3a634ebef640ef3a6a712bd8ac849e", func := "couplet/coupletlaw01.WireRow", spec := "wireRow", unfollowed := true, recurses := true, apart := false }
def WireRowSaid : Prop := wireRowRow.holds Try.pinned (OpenSpec.ofChange wireRowSpec)

/-- ITS FALSE NEIGHBOUR: 'it returns false'. Refute it at one input. -/
def wireRowWrong : ChangeSpec := { name := "wireRow", fn := fun _ => fun
  | [d1, d2] => { results := [.lit (.bool false)], args := [d1, d2] }
  | _ => none }
def WireRowWrongFalsely : Prop := wireRowRow.holds Try.pinned (OpenSpec.ofChange wireRowWrong)

/-- 'coupletlaw01.WireStrict': WHATEVER THE INPUT: true; the input reads as it did. -/
def wireStrictSpec : ChangeSpec := { name := "wireStrict", fn := fun _ => fun
  | [d] => { results := [.lit (.bool true)], args := [d] }
  | _ => none }
def wireStrictRow : OpenClaim := { program := "ytmjbpnoemdnhbaa", sum := "9a1ade4c529935c4e402aeda4fd4ff69ab3a634ebef640ef3a6a712bd8ac849e", func := "couplet/coupletlaw01.WireStrict", spec := "wireStrict", unfollowed := true, recurses := true, apart := false }
def WireStrictSaid : Prop := wireStrictRow.holds Try.pinned (OpenSpec.ofChange wireStrictSpec)

/-- ITS FALSE NEIGHBOUR: 'it returns false'. Refute it at one input. -/
def wireStrictWrong : ChangeSpec := { name := "wireStrict", fn := fun _ => fun
  | [d] => { results := [.lit (.bool false)], args := [d] }
  | _ => none }
def WireStrictWrongFalsely : Prop := wireStrictRow.holds Try.pinned (OpenSpec.ofChange wireStrictWrong)

/-- 'coupletlaw01.WireSizes': WHATEVER THE INPUT: true; the input reads as it did. -/
def wireSizesSpec : ChangeSpec := { name := "wireSizes", fn := fun _ => fun
  | [d1, d2] => { results := [.lit (.bool true)], args := [d1, d2] }
  | _ => none }
def wireSizesRow : OpenClaim := { program := "ytmjbpnoemdnhbaa", sum := "9a1ade4c529935c4e402aeda4fd4ff69ab3a634ebef640ef3a6a712bd8ac849e", func := "couplet/coupletlaw01.WireSizes", spec := "wireSizes", unfollowed := true, recurses := true, apart := false }
def WireSizesSaid : Prop := wireSizesRow.holds Try.pinned (OpenSpec.ofChange wireSizesSpec)

/-- ITS FALSE NEIGHBOUR: 'it returns false'. Refute it at one input. -/
def wireSizesWrong : ChangeSpec := { name := "wireSizes", fn := fun _ => fun
  | [d1, d2] => { results := [.lit (.bool false)], args := [d1, d2] }
  | _ => none }
def WireSizesWrongFalsely : Prop := wireSizesRow.holds Try.pinned (OpenSpec.ofChange wireSizesWrong)

/-- 'coupletlaw01.WireKnown': WHATEVER THE INPUT: true; the input reads as it did. -/
def wireKnownSpec : ChangeSpec := { name := "wireKnown", fn := fun _ => fun
  | [] => { results := [.lit (.bool true)], args := [] }
  | _ => none }
def wireKnownRow : OpenClaim := { program := "ytmjbpnoemdnhbaa", sum := "9a1ade4c529935c4e402aeda4fd4ff69ab3a634ebef640ef3a6a712bd8ac849e", func := "couplet/coupletlaw01.WireKnown", spec := "wireKnown", unfollowed := true, recurses := true, apart := false }
def WireKnownSaid : Prop := wireKnownRow.holds Try.pinned (OpenSpec.ofChange wireKnownSpec)

/-- ITS FALSE NEIGHBOUR: 'it returns false'. Refute it at one input. -/
def wireKnownWrong : ChangeSpec := { name := "wireKnown", fn := fun _ => fun
  | [] => { results := [.lit (.bool false)], args := [] }
  | _ => none }
def WireKnownWrongFalsely : Prop := wireKnownRow.holds Try.pinned (OpenSpec.ofChange wireKnownWrong)

/- THE SECOND FORM. 'bulk': how many values and letters a reading holds, each counted each time it is reached (what is shared counts as often as it is met; a slice's spare places count too). A statement '..UptoSaid' is the law's where the arguments, and the package variables that the reading takes, are together of bulk at most 1048576: NARROWER than '..Said'. Prove '..Said' where nothing that the law and all that it calls make is longer than what came in: it says more and counts as full. Else prove '..UptoSaid'. A law counts once. -/
mutual
def uptoBulk {H : Type} : DataW H → Nat
  | .lit (.string bytes) => bytes.length + 1
  | .lit _ => 1
  | .nil => 1
  | .ptr d => uptoBulk d + 1
  | .slice elems spare => uptoBulkAll elems + uptoBulkAll spare + 1
  | .agg parts => uptoBulkAll parts + 1
  | .iface _ d => uptoBulk d + 1
  | .map entries => uptoBulkEntries entries + 1
  | .held _ => 1
def uptoBulkAll {H : Type} : List (DataW H) → Nat
  | [] => 0
  | d :: r => uptoBulk d + uptoBulkAll r
def uptoBulkEntries {H : Type} : List (Lit × DataW H) → Nat
  | [] => 0
  | x :: r => uptoBulkEntry x + uptoBulkEntries r
def uptoBulkEntry {H : Type} : Lit × DataW H → Nat
  | (.string bytes, d) => bytes.length + uptoBulk d + 1
  | (_, d) => uptoBulk d + 1
 end
def uptoSmall : (H : Type) → List (DataW H) → Bool := fun _ ds => decide (uptoBulkAll ds ≤ 1048576)
def OpenSpec.upto (s : _root_.Go.ChangeSpec) : _root_.Go.OpenSpec := { _root_.Go.OpenSpec.ofChange s with cond := some uptoSmall }

/-- 'coupletlaw01.WireLays', WHERE WHAT IT READS IS OF BULK AT MOST 1048576: true; the input reads as it did. -/
def wireLaysUptoRow : OpenClaim := { program := "ytmjbpnoemdnhbaa", sum := "9a1ade4c529935c4e402aeda4fd4ff69ab3a634ebef640ef3a6a712bd8ac849e", func := "couplet/coupletlaw01.WireLays", spec := "wireLays", unfollowed := true, recurses := true, apart := false, narrowed := true }
def WireLaysUptoSaid : Prop := wireLaysUptoRow.holds Try.pinned (OpenSpec.upto wireLaysSpec)

/-- 'coupletlaw01.WireTakes', WHERE WHAT IT READS IS OF BULK AT MOST 1048576: true; the input reads as it did. -/
def wireTakesUptoRow : OpenClaim := { program := "ytmjbpnoemdnhbaa", sum := "9a1ade4c529935c4e402aeda4fd4ff69ab3a634ebef640ef3a6a712bd8ac849e", func := "couplet/coupletlaw01.WireTakes", spec := "wireTakes", unfollowed := true, recurses := true, apart := false, narrowed := true }
def WireTakesUptoSaid : Prop := wireTakesUptoRow.holds Try.pinned (OpenSpec.upto wireTakesSpec)

/-- 'coupletlaw01.WireDigits', WHERE WHAT IT READS IS OF BULK AT MOST 1048576: true; the input reads as it did. -/
def wireDigitsUptoRow : OpenClaim := { program := "ytmjbpnoemdnhbaa", sum := "9a1ade4c529935c4e402aeda4fd4ff69ab3a634ebef640ef3a6a712bd8ac849e", func := "couplet/coupletlaw01.WireDigits", spec := "wireDigits", unfollowed := true, recurses := true, apart := false, narrowed := true }
def WireDigitsUptoSaid : Prop := wireDigitsUptoRow.holds Try.pinned (OpenSpec.upto wireDigitsSpec)

/-- 'coupletlaw01.WireRow', WHERE WHAT IT READS IS OF BULK AT MOST 1048576: true; the input reads as it did. -/
def wireRowUptoRow : OpenClaim := { program := "ytmjbpnoemdnhbaa", sum := "9a1ade4c529935c4e402aeda4fd4ff69ab3a634ebef640ef3a6a712bd8ac849e", func := "couplet/coupletlaw01.WireRow", spec := "wireRow", unfollowed := true, recurses := true, apart := false, narrowed := true }
def WireRowUptoSaid : Prop := wireRowUptoRow.holds Try.pinned (OpenSpec.upto wireRowSpec)

/-- 'coupletlaw01.WireStrict', WHERE WHAT IT READS IS OF BULK AT MOST 1048576: true; the input reads as it did. -/
def wireStrictUptoRow : OpenClaim := { program := "ytmjbpnoemdnhbaa", sum := "9a1ade4c529935c4e402aeda4fd4ff69ab3a634ebef640ef3a6a712bd8ac849e", func := "couplet/coupletlaw01.WireStrict", spec := "wireStrict", unfollowed := true, recurses := true, apart := false, narrowed := true }
def WireStrictUptoSaid : Prop := wireStrictUptoRow.holds Try.pinned (OpenSpec.upto wireStrictSpec)

/-- 'coupletlaw01.WireSizes', WHERE WHAT IT READS IS OF BULK AT MOST 1048576: true; the input reads as it did. -/
def wireSizesUptoRow : OpenClaim := { program := "ytmjbpnoemdnhbaa", sum := "9a1ade4c529935c4e402aeda4fd4ff69ab3a634ebef640ef3a6a712bd8ac849e", func := "couplet/coupletlaw01.WireSizes", spec := "wireSizes", unfollowed := true, recurses := true, apart := false, narrowed := true }
def WireSizesUptoSaid : Prop := wireSizesUptoRow.holds Try.pinned (OpenSpec.upto wireSizesSpec)

/-- 'coupletlaw01.WireKnown', WHERE WHAT IT READS IS OF BULK AT MOST 1048576: true; the input reads as it did. -/
def wireKnownUptoRow : OpenClaim := { program := "ytmjbpnoemdnhbaa", sum := "9a1ade4c529935c4e402aeda4fd4ff69ab3a634ebef640ef3a6a712bd8ac849e", func := "couplet/coupletlaw01.WireKnown", spec := "wireKnown", unfollowed := true, recurses := true, apart := false, narrowed := true }
def WireKnownUptoSaid : Prop := wireKnownUptoRow.holds Try.pinned (OpenSpec.upto wireKnownSpec)

end Rows
end Go.Proofs.Ytmjbpnoemdnhbaa
