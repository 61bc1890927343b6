/- TxnLast's argument. -/
import Derived.Test.YtocfeeecgpklnaaTYI
namespace Go.Proofs.Ytocfeeecgpklnaa
set_option linter.unusedVariables false
set_option linter.unusedSimpArgs false
set_option linter.unusedSectionVars false
open Go.RowKit Go.ChangeShapes Go.WideShapes Go.Deep

theorem last_said {H : Type} {enc : TypeId × Value → H} {base : Nat} {spare : Nat → Bool} {held : Bool} {d : DataW H} {p : List MemPlace} (a : Option Addr) (len cap : Nat) (w : World)
    (h : DataW.Trod enc Try.prog w base spare held 39 (.slice a len cap) d p) :
    Calls Try.prog 4 #[.slice a len cap] w fun e w' => e = .returned (.bool true) ∧ Mod [] w w' := by
  obtain ⟨xs, hx, rfl, hok⟩ := open_recs h
  exact last_c a cap xs w hx hok
end Go.Proofs.Ytocfeeecgpklnaa
