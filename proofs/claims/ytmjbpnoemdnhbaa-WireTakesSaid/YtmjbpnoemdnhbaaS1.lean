/- The reference's reader: its small methods. -/
import Derived.Test.YtmjbpnoemdnhbaaR3
namespace Go.Proofs.Ytmjbpnoemdnhbaa
open Go.RowKit

theorem rok_c (T : TypeId) (b : Nat) (st : Option ByteArray) (w : World) (h : Rd T w b st) :
    Calls Try.prog 21 #[.pointer (some ⟨b, 0, none⟩)] w fun e w' => e = .returned (.bool st.isSome) ∧ w = w' := by
  have h1 := h.1.cell 1
  cases st
  all_goals
    simp [rdL] at h1
    go_enter Try.func21, Try.ntmps21
    go_wp2
    go_ret
    exact ⟨rfl, rfl⟩

theorem rend_c (T : TypeId) (b : Nat) (st : Option ByteArray) (w : World) (h : Rd T w b st) :
    Calls Try.prog 23 #[.pointer (some ⟨b, 0, none⟩)] w fun e w' => e = .returned (.bool (st.isSome && (rdL st).toList.isEmpty)) ∧ w = w' := by
  have h0 := h.1.cell 0
  have h1 := h.1.cell 1
  cases st
  all_goals
    simp [rdL] at h0 h1
    go_enter Try.func23, Try.ntmps23
    go_wp2
    go_ret
    exact ⟨rfl, rfl⟩

theorem rfail_c (T : TypeId) (b : Nat) (st : Option ByteArray) (w : World) (h : Rd T w b st) :
    Calls Try.prog 30 #[.pointer (some ⟨b, 0, none⟩)] w fun e w' => e = .returned (.int .u64 0) ∧ Rd T w' b none ∧ Mod [b] w w' := by
  have h0 := h.1.cell 0
  have h1 := h.1.cell 1
  have f0 := h.1.free 0
  have f1 := h.1.free 1
  simp at h0 h1
  go_enter Try.func30, Try.ntmps30
  go_wp2
  go_ret
  exact ⟨rfl, ⟨(h.1.set 0 _).set 1 _, by decide⟩, ((Mod.refl _ _).setCell (by simp) _).setCell (by simp) _⟩

end Go.Proofs.Ytmjbpnoemdnhbaa
