/- Text of the reference reader. -/
import Derived.Test.YtmjbpnoemdnhbaaS2
namespace Go.Proofs.Ytmjbpnoemdnhbaa
open Go.RowKit

set_option maxRecDepth 100000 in
set_option maxHeartbeats 1000000 in
theorem rtext_c (T : TypeId) (b : Nat) (st : Option ByteArray) (w : World) (h : Rd T w b st) :
    Calls Try.prog 17 #[.pointer (some ⟨b, 0, none⟩)] w (TextSays T w b st) := by
  go_enter Try.func17, Try.ntmps17
  go_wp2_with fail
  refine (rnum_c T b st w h).mono ?_
  rintro e w1 ⟨rfl, h1, hm1⟩
  rcases hr : numOf st with ⟨n, r⟩
  rw [hr] at h1
  have Hr := hid hr
  clear hr
  cases r with
  | none =>
    have ht := hid (textOf_fail Hr.out)
    have hb := h1.1.cell 1
    simp [rdL] at hb
    go_wp2_with (first | (go_at_call 21; refine (rok_c T _ _ _ h1).mono ?_; rintro e w' ⟨rfl, rfl⟩) | (go_at_call 30; refine (rfail_c T _ _ _ h1).mono ?_; rintro e w2 ⟨rfl, h2, hm2⟩))
    go_ret
    unfold TextSays
    rw [ht.out]
    exact ⟨rfl, h2, hm1.tr hm2⟩
  | some r =>
    have hsz := rd_size h1
    have h0 := h1.1.cell 0
    have f0 := h1.1.free 0
    have hb := h1.1.cell 1
    simp [rdL] at h0 hb
    have H := hid h1
    clear h1
    by_cases hn : n ≤ r.size
    · have ht := hid (textOf_text Hr.out hn)
      go_wp2_with (first | (go_at_call 21; refine (rok_c T _ _ _ H.out).mono ?_; rintro e w' ⟨rfl, rfl⟩) | (go_at_call 30; refine (rfail_c T _ _ _ H.out).mono ?_; rintro e w2 ⟨rfl, h2, hm2⟩))
      go_ret
      unfold TextSays
      rw [ht.out]
      exact ⟨rfl, ⟨H.out.1.set 0 _, by simp [rdL]; omega⟩, hm1.setCell (by simp) _⟩
    · have ht := hid (textOf_long Hr.out hn)
      go_wp2_with (first | (go_at_call 21; refine (rok_c T _ _ _ H.out).mono ?_; rintro e w' ⟨rfl, rfl⟩) | (go_at_call 30; refine (rfail_c T _ _ _ H.out).mono ?_; rintro e w2 ⟨rfl, h2, hm2⟩))
      go_ret
      unfold TextSays
      rw [ht.out]
      exact ⟨rfl, h2, hm1.tr hm2⟩

end Go.Proofs.Ytmjbpnoemdnhbaa
