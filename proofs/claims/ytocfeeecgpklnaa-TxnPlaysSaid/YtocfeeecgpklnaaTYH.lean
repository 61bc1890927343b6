/- TxnPlays' arguments. -/
import Derived.Test.YtocfeeecgpklnaaTYC
namespace Go.Proofs.Ytocfeeecgpklnaa
set_option linter.unusedVariables false
set_option linter.unusedSimpArgs false
set_option linter.unusedSectionVars false
open Go.RowKit Go.ChangeShapes Go.WideShapes Go.Deep

theorem plays_said {H : Type} {enc : TypeId × Value → H} {base : Nat} {spare : Nat → Bool} {held : Bool} {d : DataW H} {p : List MemPlace} (ts : Int) (a : Option Addr) (len cap : Nat) (w : World)
    (h : (Lit.int .u64 ts).wf = true) (hx : DataW.Trod enc Try.prog w base spare held 49 (.slice a len cap) d p) :
    Calls Try.prog 6 #[.int .u64 ts, .slice a len cap] w fun e w' => e = .returned (.bool true) ∧ Mod [] w w' := by
  obtain ⟨k, rfl, _⟩ := u64_bnd h
  obtain ⟨xs, hx2, rfl, hok⟩ := open_acts hx
  exact plays_c k a cap xs w hx2 hok
end Go.Proofs.Ytocfeeecgpklnaa
