/- A reader as a thing in memory. -/
import Derived.Test.YtmjbpnoemdnhbaaAS
import Derived.Test.YtmjbpnoemdnhbaaQ3
import Derived.Test.YtmjbpnoemdnhbaaK4
import Derived.Test.YtmjbpnoemdnhbaaU1
import Derived.Test.YtmjbpnoemdnhbaaG1
namespace Go.Proofs.Ytmjbpnoemdnhbaa
set_option linter.unusedVariables false
set_option linter.unusedSimpArgs false
set_option linter.unusedSectionVars false
open Go.RowKit Go.ChangeShapes Go.WideShapes Go.Deep

theorem open_shape {H : Type} {enc : TypeId × Value → H} {w : World} {base : Nat} {spare : Nat → Bool} {held : Bool} {a : Option Addr} {len cap : Nat} {d : DataW H} {p : List MemPlace}
    (h : DataW.Trod enc Try.prog w base spare held 22 (.slice a len cap) d p) : (a = none ∧ len = 0 ∧ cap = 0) ∨ (∃ ad, a = some ad ∧ len ≤ cap ∧ cap ≤ 9223372036854775807) := by
  obtain ⟨fuel, hf⟩ := h
  rcases open_slice Try.underlying22 hf with ⟨h0, _⟩ | ⟨ad, l, c, m, n, D, Pl, hcs, _, hl, hm, hmm, _, hx⟩
  · simp [Value.cells] at h0
    exact Or.inl h0
  · simp [Value.cells] at hcs
    obtain ⟨rfl, rfl, rfl⟩ := hcs
    exact Or.inr ⟨ad, rfl, hl, by simpa [maxLen] using hm⟩

/-- A reader as a thing in memory. -/
def rdR (b : Nat) (st : Option ByteArray) : Res := fun w L => Rd 51 w b st ∧ L = [b]
instance (b : Nat) (st : Option ByteArray) : Keep (rdR b st) where
  lt := by rintro w L ⟨h, rfl⟩ k hk; simp at hk; subst hk; exact h.1.lt
  mod := by rintro w w' L M ⟨h, rfl⟩ hm hd; exact ⟨h.mod hm (hd _ (by simp)), rfl⟩

section
variable {w0 w : World} {b : Nat} {st : Option ByteArray} {U : Res} [Keep U]
theorem ask_t (h : Top w0 (star (rdR b st) U) w) (x : Item) : Calls Try.prog 25 #[.pointer (some ⟨b, 0, none⟩), .agg #[.bool x.isT, .string x.s, .int .u64 x.n]] w fun e w' => e = .returned (.bool (askOf x st).1) ∧ Top w0 (star (rdR b (askOf x st).2) U) w' :=
  h.call (r := .bool (askOf x st).1) fun L hL => by
    obtain ⟨h1, rfl⟩ := hL
    exact (ask_c x b st w h1).mono fun e w' g => ⟨g.1, [b], ⟨g.2.1, rfl⟩, g.2.2, fun k hk => Or.inl hk⟩
theorem num_t (h : Top w0 (star (rdR b st) U) w) : Calls Try.prog 18 #[.pointer (some ⟨b, 0, none⟩)] w fun e w' => e = .returned (.int .u64 (numOf st).1) ∧ Top w0 (star (rdR b (numOf st).2) U) w' :=
  h.call (r := .int .u64 (numOf st).1) fun L hL => by
    obtain ⟨h1, rfl⟩ := hL
    exact (num_c _ b st w h1).mono fun e w' g => ⟨g.1, [b], ⟨g.2.1, rfl⟩, g.2.2, fun k hk => Or.inl hk⟩
theorem text_t (h : Top w0 (star (rdR b st) U) w) : Calls Try.prog 16 #[.pointer (some ⟨b, 0, none⟩)] w fun e w' => e = .returned (.string (textOf st).1) ∧ Top w0 (star (rdR b (textOf st).2) U) w' :=
  h.call (r := .string (textOf st).1) fun L hL => by
    obtain ⟨h1, rfl⟩ := hL
    exact (text_c _ b st w h1).mono fun e w' g => ⟨g.1, [b], ⟨g.2.1, rfl⟩, g.2.2, fun k hk => Or.inl hk⟩
theorem ok_t (h : Top w0 (star (rdR b st) U) w) : Calls Try.prog 20 #[.pointer (some ⟨b, 0, none⟩)] w fun e w' => e = .returned (.bool st.isSome) ∧ w = w' := by
  obtain ⟨L, h1, _⟩ := h.res
  exact ok_c _ b st w h1
theorem end_t (h : Top w0 (star (rdR b st) U) w) : Calls Try.prog 22 #[.pointer (some ⟨b, 0, none⟩)] w fun e w' => e = .returned (.bool (atEnd st)) ∧ w = w' := by
  obtain ⟨L, h1, _⟩ := h.res
  exact end_c _ b st w h1
theorem newr_t (h : Top w0 U w) (s : ByteArray) (hs : s.size ≤ 9223372036854775807) : Calls Try.prog 15 #[.string s] w fun e w' => e = .returned (.pointer (some ⟨w.heap.size, 0, none⟩)) ∧ Top w0 (star (rdR w.heap.size (some s)) U) w' :=
  (new_c s w hs).mono fun e w' g => ⟨g.1, h.made (L := [w.heap.size]) ⟨g.2.1, rfl⟩ g.2.2.1 (by simp)⟩
end

end Go.Proofs.Ytmjbpnoemdnhbaa
