/- The law WireTakes, walked. -/
import Derived.Test.YtmjbpnoemdnhbaaU1
import Derived.Test.YtmjbpnoemdnhbaaS3
import Derived.Test.YtmjbpnoemdnhbaaG1
namespace Go.Proofs.Ytmjbpnoemdnhbaa
open Go.RowKit

set_option maxRecDepth 100000 in
set_option maxHeartbeats 2000000 in
theorem takes_walk (s : ByteArray) (mask calls : Nat) (w : World) (hs : s.size ≤ 9223372036854775807) (hm : mask < 65536) (hcl : calls < 256) :
    Calls Try.prog 4 #[.string s, .int .u16 mask, .int .u8 calls] w fun e w' => e = .returned (.bool true) ∧ Mod [] w w' := by
  rcases Nat.lt_or_ge 600 s.size with hx | hx
  all_goals
    go_enter Try.func4, Try.ntmps4
    go_wp2_with fail
    refine (new_c _ w (by first | (simp; omega) | assumption)).mono ?_
    rintro e w1 ⟨rfl, hr, hm1, hs1⟩
    obtain ⟨b, hb⟩ : ∃ b, Hid (b = w.heap.size) := ⟨_, rfl⟩
    rw [← hb.out] at hr ⊢
    have hs1 := hid hs1
    rename_i hs1'
    clear hs1'
    go_wp2
    obtain ⟨b2, hb2⟩ : ∃ b2, Hid (b2 = w1.heap.size) := ⟨_, rfl⟩
    rw [← hb2.out]
    have hlt : b < b2 := by rw [hb2.out]; exact hr.1.lt
    go_loopg [9] 17 (fun g i wr => ∃ (k : Nat) (st : Option ByteArray), i = .int .i64 k ∧ k + g = 17 ∧ Rd 51 wr b st ∧ Rd 37 wr b2 st ∧ Hid (Mod [] w wr))
    · refine ⟨0, _, rfl, rfl, hr.mod ((Mod.refl [] _).alloc _) (by simp), ⟨?_, hr.2⟩, hm1.alloc _⟩
      rw [hb2.out]; exact Blk.new _ _ _
    · obtain ⟨k, st, rfl, hk, hr1, hr2, hmod⟩ := hrel
      have hne : b ∉ [b2] := by simp; omega
      have hne2 : b2 ∉ [b] := by simp; omega
      by_cases hlt2 : k < calls % 17
      · go_wp2_with fail
        · refine (text_c _ _ _ _ hr1).mono ?_
          rintro e w2 ⟨rfl, hr3, hm3⟩
          have hr4 := hr2.mod hm3 hne2
          go_wp2_with fail
          refine (rtext_c _ _ _ _ hr4).mono ?_
          rintro e w3 ⟨rfl, hr5, hm5⟩
          have hr6 := hr3.mod hm5 hne
          obtain ⟨st', hst⟩ : ∃ st', (textOf st).2 = st' := ⟨_, rfl⟩
          rw [hst] at hr5 hr6
          clear hst hr3 hr4 hr1 hr2
          go_wp2_with fail
          refine (ok_c _ _ _ _ hr6).mono ?_
          rintro e w4 ⟨rfl, rfl⟩
          go_wp2_with fail
          refine (rok_c _ _ _ _ hr5).mono ?_
          rintro e w4 ⟨rfl, rfl⟩
          go_wp2_with fail
          refine (end_c _ _ _ _ hr6).mono ?_
          rintro e w4 ⟨rfl, rfl⟩
          go_wp2_with fail
          refine (rend_c _ _ _ _ hr5).mono ?_
          rintro e w4 ⟨rfl, rfl⟩
          go_wp2
          go_roundg (gk - 1)
          case measure => omega
          case rel =>
            exact ⟨k + 1, st', by go_num, by omega, hr6, hr5, (hmod.out.trans hm3 (m := []) (by simp) (by
              intro x hx hlt; simp at hx; have := hb.out; omega)).trans hm5 (by simp) (by
              intro x hx hlt; simp at hx; have := hb.out; omega)⟩
        · refine (num_c _ _ _ _ hr1).mono ?_
          rintro e w2 ⟨rfl, hr3, hm3⟩
          have hr4 := hr2.mod hm3 hne2
          go_wp2_with fail
          refine (rnum_c _ _ _ _ hr4).mono ?_
          rintro e w3 ⟨rfl, hr5, hm5⟩
          have hr6 := hr3.mod hm5 hne
          obtain ⟨st', hst⟩ : ∃ st', (numOf st).2 = st' := ⟨_, rfl⟩
          rw [hst] at hr5 hr6
          clear hst hr3 hr4 hr1 hr2
          go_wp2_with fail
          refine (ok_c _ _ _ _ hr6).mono ?_
          rintro e w4 ⟨rfl, rfl⟩
          go_wp2_with fail
          refine (rok_c _ _ _ _ hr5).mono ?_
          rintro e w4 ⟨rfl, rfl⟩
          go_wp2_with fail
          refine (end_c _ _ _ _ hr6).mono ?_
          rintro e w4 ⟨rfl, rfl⟩
          go_wp2_with fail
          refine (rend_c _ _ _ _ hr5).mono ?_
          rintro e w4 ⟨rfl, rfl⟩
          go_wp2
          go_roundg (gk - 1)
          case measure => omega
          case rel =>
            exact ⟨k + 1, st', by go_num, by omega, hr6, hr5, (hmod.out.trans hm3 (m := []) (by simp) (by
              intro x hx hlt; simp at hx; have := hb.out; omega)).trans hm5 (by simp) (by
              intro x hx hlt; simp at hx; have := hb.out; omega)⟩
      · go_wp2_with fail
        refine (works_c _).mono ?_
        rintro e w4 ⟨rfl, hm4⟩
        go_wp2
        go_ret
        exact ⟨rfl, hmod.out.tr hm4⟩

theorem takes_said (s : ByteArray) (mask calls : Int) (w : World) (hs : s.size ≤ maxLen) (hm : (Lit.int .u16 mask).wf = true) (hc : (Lit.int .u8 calls).wf = true) :
    Calls Try.prog 4 #[.string s, .int .u16 mask, .int .u8 calls] w fun e w' => e = .returned (.bool true) ∧ Mod [] w w' := by
  have h1 := u16_bounds hm
  have h2 := u8_bounds hc
  obtain ⟨x, rfl⟩ := Int.eq_ofNat_of_zero_le h1.1
  obtain ⟨y, rfl⟩ := Int.eq_ofNat_of_zero_le h2.1
  exact takes_walk s x y w (by simpa [maxLen] using hs) (by omega) (by omega)

end Go.Proofs.Ytmjbpnoemdnhbaa
