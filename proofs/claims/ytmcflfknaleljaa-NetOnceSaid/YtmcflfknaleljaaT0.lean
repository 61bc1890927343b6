/- Some bytes made into a string. -/
import Derived.Test.YtmcflfknaleljaaRows
import Derived.Test.YtmcflfknaleljaaK2
import Derived.Lib.ConvBytes
namespace Go.Proofs.Ytmcflfknaleljaa
set_option linter.unusedVariables false
set_option linter.unusedSimpArgs false
open Go.RowKit

theorem conv_bytes (W : World) (b L cap : Nat) (l : List UInt8) (T : TypeId) (h : Blk W b (bytesV l).toArray T) (hl : l.length = L) :
    (convert 41 9 (.slice (some ⟨b, 0, none⟩) L cap)).run Try.prog W = .ok (.string ⟨l.toArray⟩) W := by
  rw [run_convert_bytes_arg _ 41 5 Try.underlying41 Try.underlying5 b 0 L cap (l.map fun c => (c.toNat : Int)) (by simpa using hl) (by
    intro i hi
    rw [Nat.zero_add, h.cell]
    simp [bytesV, List.getElem?_eq_getElem (show i < l.length by omega)]) 9 Try.underlying9]
  congr 2
  apply ByteArray.ext
  apply Array.toList_inj.1
  simp [strOfNums, Function.comp_def]

end Go.Proofs.Ytmcflfknaleljaa
