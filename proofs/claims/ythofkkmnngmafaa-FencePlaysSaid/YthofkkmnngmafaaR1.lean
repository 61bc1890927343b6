/- A reader in memory, and what its methods do to it: wire's own, and the reference's. -/
import Derived.Test.YthofkkmnngmafaaRows
import Derived.Test.YthofkkmnngmafaaP1
import Derived.Test.YthofkkmnngmafaaK1
import Derived.Test.YthofkkmnngmafaaA1
namespace Go.Proofs.Ythofkkmnngmafaa
open Go.RowKit

/-- A reader's state: what is left, or: it has failed. -/
def rdL : Option ByteArray → ByteArray
  | some s => s
  | none => ⟨#[]⟩

def Rd (T : TypeId) (w : World) (b : Nat) (st : Option ByteArray) : Prop :=
  Blk w b #[.string (rdL st), .bool st.isNone] T ∧ (rdL st).size ≤ 9223372036854775807

def numOf : Option ByteArray → Nat × Option ByteArray
  | none => (0, none)
  | some s => match Wire.num? s.data.toList 0 0 with
    | some (n, k) => (n, some (s.extract k s.size))
    | none => (0, none)

def textOf (st : Option ByteArray) : ByteArray × Option ByteArray :=
  match numOf st with
  | (n, some r) => if n ≤ r.size then (r.extract 0 n, some (r.extract n r.size)) else (⟨#[]⟩, none)
  | (_, none) => (⟨#[]⟩, none)

theorem Rd.mod {T : TypeId} {l : List Nat} {w w' : World} {b : Nat} {st : Option ByteArray} (h : Rd T w b st) (hm : Mod l w w') (hn : b ∉ l) : Rd T w' b st := ⟨hm.blk h.1 hn, h.2⟩

theorem ok_c (T : TypeId) (b : Nat) (st : Option ByteArray) (w : World) (h : Rd T w b st) :
    Calls Try.prog 39 #[.pointer (some ⟨b, 0, none⟩)] w fun e w' => e = .returned (.bool st.isSome) ∧ w = w' := by
  have h1 := h.1.cell 1
  cases st
  all_goals
    simp [rdL] at h1
    go_enter Try.func39, Try.ntmps39
    go_wp2
    go_ret
    exact ⟨rfl, rfl⟩

theorem end_c (T : TypeId) (b : Nat) (st : Option ByteArray) (w : World) (h : Rd T w b st) :
    Calls Try.prog 40 #[.pointer (some ⟨b, 0, none⟩)] w fun e w' => e = .returned (.bool (st.isSome && (rdL st).toList.isEmpty)) ∧ w = w' := by
  have h0 := h.1.cell 0
  cases st
  all_goals
    simp [rdL] at h0
    go_enter Try.func40, Try.ntmps40
    go_wp2_with (go_at_call 39; refine (ok_c T _ _ _ h).mono ?_; rintro e w' ⟨rfl, rfl⟩)
    go_ret
    exact ⟨rfl, rfl⟩

theorem fail_c (T : TypeId) (b : Nat) (st : Option ByteArray) (w : World) (h : Rd T w b st) :
    Calls Try.prog 63 #[.pointer (some ⟨b, 0, none⟩)] w fun e w' => e = .returned (.tuple #[]) ∧ Rd T w' b none ∧ Mod [b] w w' := by
  have h0 := h.1.cell 0
  have h1 := h.1.cell 1
  have f0 := h.1.free 0
  have f1 := h.1.free 1
  simp at h0 h1
  go_enter Try.func63, Try.ntmps63
  go_wp2
  go_end0
  exact ⟨rfl, ⟨(h.1.set 0 _).set 1 _, by decide⟩, ((Mod.refl _ _).setCell (by simp) _).setCell (by simp) _⟩

end Go.Proofs.Ythofkkmnngmafaa
