/- The law WireSizes, walked. -/
import Derived.Test.YtmjbpnoemdnhbaaU1
import Derived.Test.YtmjbpnoemdnhbaaP2
namespace Go.Proofs.Ytmjbpnoemdnhbaa
open Go.RowKit

set_option maxRecDepth 100000 in
set_option maxHeartbeats 1000000 in
theorem sizes_core (low high : Nat) (hl : low < 18446744073709551616) (hh : high < 18446744073709551616) (a b : Nat) (hab : (a = low ∧ b = high ∧ low < high) ∨ (a = low ∧ b = high ∧ high = low) ∨ (a = high ∧ b = low ∧ low < high)) (w : World) :
    Calls Try.prog 8 #[.int .u64 a, .int .u64 b] w fun e w' => e = .returned (.bool true) ∧ Mod [] w w' := by
  obtain ⟨sl, hsl⟩ : ∃ s : ByteArray, Hid (s = ⟨(Wire.digits low).toArray⟩) := ⟨_, rfl⟩
  obtain ⟨sh, hsh⟩ : ∃ s : ByteArray, Hid (s = ⟨(Wire.digits high).toArray⟩) := ⟨_, rfl⟩
  have hle : low ≤ high := by omega
  have h1 : sl.size ≤ sh.size := by rw [hsl.out, hsh.out]; exact Wire.digits_len_mono high low hle
  have h2 : 1 ≤ sl.size := by rw [hsl.out]; exact Wire.digits_len_pos low
  have h3 : sh.size ≤ 10 := by rw [hsh.out]; exact digits_len10 high hh
  have h4 : low < 1 ∨ high / 128 < low ∨ sl.size < sh.size := by
    by_cases h : low = 0
    · exact Or.inl (by omega)
    · by_cases h' : high / 128 < low
      · exact Or.inr (Or.inl h')
      · refine Or.inr (Or.inr ?_)
        rw [hsl.out, hsh.out]
        exact Wire.digits_len_less low high h (by omega)
  have H4 := hid h4
  clear h4
  rcases hab with ⟨rfl, rfl, hlt⟩ | ⟨rfl, rfl, rfl⟩ | ⟨rfl, rfl, hlt⟩
  all_goals
    go_enter Try.func8, Try.ntmps8
    go_wp2_with fail
    refine (bytesOf_c _ _ hl).mono ?_
    rintro e w1 ⟨rfl, hm1⟩
    rw [← hsl.out]
    go_wp2_with fail
    refine (bytesOf_c _ _ hh).mono ?_
    rintro e w2 ⟨rfl, hm2⟩
    rw [← hsh.out]
    go_wp2_with (go_at_call 14; refine (works_c _).mono ?_; rintro e w3 ⟨rfl, hm3⟩)
    all_goals
      have h4 := H4.out
      clear H4
      first
      | (exfalso; omega)
      | (go_ret; exact ⟨rfl, (hm1.tr hm2).tr hm3⟩)
      | (go_ret; exact ⟨ret_bool (by simp; omega), (hm1.tr hm2).tr hm3⟩)

theorem sizes_walk (a b : Nat) (ha : a < 18446744073709551616) (hb : b < 18446744073709551616) (w : World) :
    Calls Try.prog 8 #[.int .u64 a, .int .u64 b] w fun e w' => e = .returned (.bool true) ∧ Mod [] w w' := by
  rcases Nat.lt_trichotomy a b with h | h | h
  · exact sizes_core a b ha hb a b (Or.inl ⟨rfl, rfl, h⟩) w
  · exact sizes_core a b ha hb a b (Or.inr (Or.inl ⟨rfl, rfl, h.symm⟩)) w
  · exact sizes_core b a hb ha a b (Or.inr (Or.inr ⟨rfl, rfl, h⟩)) w

theorem u64_bounds {n : Int} (h : (Lit.int .u64 n).wf = true) : 0 ≤ n ∧ n < 18446744073709551616 := by
  simp [Lit.wf, IntKind.min, IntKind.max, IntKind.signed, IntKind.bits] at h
  omega

theorem sizes_said (a b : Int) (w : World) (ha : (Lit.int .u64 a).wf = true) (hb : (Lit.int .u64 b).wf = true) :
    Calls Try.prog 8 #[.int .u64 a, .int .u64 b] w fun e w' => e = .returned (.bool true) ∧ Mod [] w w' := by
  have h1 := u64_bounds ha
  have h2 := u64_bounds hb
  obtain ⟨x, rfl⟩ := Int.eq_ofNat_of_zero_le h1.1
  obtain ⟨y, rfl⟩ := Int.eq_ofNat_of_zero_le h2.1
  exact sizes_walk x y (by omega) (by omega) w

end Go.Proofs.Ytmjbpnoemdnhbaa
