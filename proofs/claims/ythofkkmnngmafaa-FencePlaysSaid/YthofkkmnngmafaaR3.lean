/- Text of wire's reader, and its making. -/
import Derived.Test.YthofkkmnngmafaaR2
namespace Go.Proofs.Ythofkkmnngmafaa
open Go.RowKit

def TextSays (T : TypeId) (w : World) (b : Nat) (st : Option ByteArray) (e : Ending) (w' : World) : Prop :=
  e = .returned (.string (textOf st).1) ∧ Rd T w' b (textOf st).2 ∧ Mod [b] w w'

theorem textOf_fail {st : Option ByteArray} {n : Nat} (h : numOf st = (n, none)) : textOf st = (⟨#[]⟩, none) := by simp [textOf, h]
theorem textOf_long {st : Option ByteArray} {n : Nat} {r : ByteArray} (h : numOf st = (n, some r)) (hn : ¬ n ≤ r.size) : textOf st = (⟨#[]⟩, none) := by simp [textOf, h, hn]
theorem textOf_text {st : Option ByteArray} {n : Nat} {r : ByteArray} (h : numOf st = (n, some r)) (hn : n ≤ r.size) : textOf st = (r.extract 0 n, some (r.extract n r.size)) := by simp [textOf, h, hn]

set_option maxRecDepth 100000 in
set_option maxHeartbeats 1000000 in
theorem text_c (T : TypeId) (b : Nat) (st : Option ByteArray) (w : World) (h : Rd T w b st) :
    Calls Try.prog 38 #[.pointer (some ⟨b, 0, none⟩)] w (TextSays T w b st) := by
  go_enter Try.func38, Try.ntmps38
  go_wp2_with fail
  refine (num_c T b st w h).mono ?_
  rintro e w1 ⟨rfl, h1, hm1⟩
  rcases hr : numOf st with ⟨n, r⟩
  rw [hr] at h1
  have Hr := hid hr
  clear hr
  cases r with
  | none =>
    have ht := hid (textOf_fail Hr.out)
    go_wp2_with (first | (go_at_call 39; refine (ok_c T _ _ _ h1).mono ?_; rintro e w' ⟨rfl, rfl⟩) | (go_at_call 63; refine (fail_c T _ _ _ h1).mono ?_; rintro e w2 ⟨rfl, h2, hm2⟩))
    go_ret
    unfold TextSays
    rw [ht.out]
    exact ⟨rfl, h2, hm1.tr hm2⟩
  | some r =>
    have hsz := rd_size h1
    have h0 := h1.1.cell 0
    have f0 := h1.1.free 0
    simp [rdL] at h0
    have H := hid h1
    clear h1
    by_cases hn : n ≤ r.size
    · have ht := hid (textOf_text Hr.out hn)
      go_wp2_with (first | (go_at_call 39; refine (ok_c T _ _ _ H.out).mono ?_; rintro e w' ⟨rfl, rfl⟩) | (go_at_call 63; refine (fail_c T _ _ _ H.out).mono ?_; rintro e w2 ⟨rfl, h2, hm2⟩))
      go_ret
      unfold TextSays
      rw [ht.out]
      exact ⟨rfl, ⟨H.out.1.set 0 _, by simp [rdL]; omega⟩, hm1.setCell (by simp) _⟩
    · have ht := hid (textOf_long Hr.out hn)
      go_wp2_with (first | (go_at_call 39; refine (ok_c T _ _ _ H.out).mono ?_; rintro e w' ⟨rfl, rfl⟩) | (go_at_call 63; refine (fail_c T _ _ _ H.out).mono ?_; rintro e w2 ⟨rfl, h2, hm2⟩))
      go_ret
      unfold TextSays
      rw [ht.out]
      exact ⟨rfl, h2, hm1.tr hm2⟩

theorem new_c (s : ByteArray) (w : World) (hs : s.size ≤ 9223372036854775807) :
    Calls Try.prog 36 #[.string s] w fun e w' => e = .returned (.pointer (some ⟨w.heap.size, 0, none⟩)) ∧ Rd 100 w' w.heap.size (some s) ∧ Mod [] w w' ∧ w'.heap.size = w.heap.size + 1 := by
  go_enter Try.func36, Try.ntmps36
  go_wp2
  go_ret
  exact ⟨rfl, ⟨Blk.new _ _ _, hs⟩, (Mod.refl _ _).alloc _, by simp⟩

end Go.Proofs.Ythofkkmnngmafaa
