/- How deep a fence is: the walk. -/
import Derived.Test.YthofkkmnngmafaaFQ
import Derived.Test.YthofkkmnngmafaaFL
namespace Go.Proofs.Ythofkkmnngmafaa
set_option linter.unusedVariables false
set_option linter.unusedSimpArgs false
set_option linter.unusedSectionVars false
open Go.RowKit

set_option maxRecDepth 100000 in
set_option maxHeartbeats 1000000 in
theorem fdepth_c (w : World) (fb : Nat) (f : Fc) (L : List Nat) (h : feR fb f w L) (hg : Good f) (hd : f.d ≤ 1000) :
    Calls Try.prog 14 #[.pointer (some ⟨fb, 0, none⟩)] w fun e w' => e = .returned (.int .i64 (f.d : Nat)) ∧ w = w' := by
  obtain ⟨c, L1, L2, ⟨hb, rfl⟩, ht, rfl, _⟩ := h
  have b0 := hb.cell 0
  have hbl := hb.lt
  simp only [List.getElem?_toArray, List.getElem?_cons_zero] at b0
  obtain ⟨d, t⟩ := f
  cases d with
  | zero =>
    obtain ⟨rfl, _⟩ := ht
    replace b0 : w.cell? ⟨fb, 0, none⟩ = some (.iface 58 (.int .u64 (t : Nat))) := b0
    clear hb hg
    go_enter Try.func14, Try.ntmps14
    go_wp2_with (first
      | (go_at_call 96; refine (depthL_c _ _).mono ?_; rintro e w' ⟨rfl, rfl⟩)
      | fail)
    go_ret
    exact ⟨rfl, rfl⟩
  | succ d =>
    have ht' := ht
    obtain ⟨bi, cs, rfl, _⟩ := ht'
    replace b0 : w.cell? ⟨fb, 0, none⟩ = some (.iface 65 (.pointer (some ⟨bi, 0, none⟩))) := b0
    have hrec := hid (depthN_c d t bi w L2 ht hg.fan (by show d ≤ 1000; simp at hd; omega))
    clear hb hg ht
    go_enter Try.func14, Try.ntmps14
    go_wp2_with (first
      | (go_at_call 97; refine hrec.out.mono ?_; rintro e w' ⟨rfl, rfl⟩)
      | fail)
    go_ret
    exact ⟨rfl, rfl⟩
end Go.Proofs.Ythofkkmnngmafaa
