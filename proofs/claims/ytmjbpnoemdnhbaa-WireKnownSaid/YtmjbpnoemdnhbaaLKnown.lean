/- The law WireKnown, walked: closed. -/
import Derived.Test.YtmjbpnoemdnhbaaU1
import Derived.Test.YtmjbpnoemdnhbaaG1
import Derived.LoopN
namespace Go.Proofs.Ytmjbpnoemdnhbaa
open Go.RowKit

/-- A reader of these bytes fails at its first call. -/
def failsB (s : ByteArray) (t : Bool) : Bool :=
  match t with
  | true => (textOf (some s)).2.isNone && (textOf (some s)).1.data.toList.isEmpty
  | false => (numOf (some s)).2.isNone && (numOf (some s)).1 == 0

theorem fails_c (s : ByteArray) (t : Bool) (w : World) (hs : s.size ≤ 9223372036854775807) (h : failsB s t = true) :
    Calls Try.prog 27 #[.string s, .bool t] w fun e w' => e = .returned (.bool true) ∧ Mod [] w w' := by
  cases t
  · have hn : numOf (some s) = (0, none) := by
      simp [failsB] at h
      rcases hx : numOf (some s) with ⟨n, r⟩
      rw [hx] at h
      simp at h
      simp [h]
    have Hn := hid hn
    clear hn
    go_enter Try.func27, Try.ntmps27
    go_wp2_with fail
    refine (new_c _ w hs).mono ?_
    rintro e w1 ⟨rfl, hr, hm1, hs1⟩
    clear hs1
    obtain ⟨b, hb⟩ : ∃ b, Hid (b = w.heap.size) := ⟨_, rfl⟩
    rw [← hb.out] at hr ⊢
    go_wp2_with fail
    refine (num_c _ _ _ _ hr).mono ?_
    rintro e w2 ⟨rfl, hr2, hm2⟩
    rw [Hn.out] at hr2 ⊢
    go_wp2_with fail
    refine (ok_c _ _ _ _ hr2).mono ?_
    rintro e w3 ⟨rfl, rfl⟩
    go_wp2
    go_ret
    exact ⟨rfl, hm1.trans hm2 (by simp) (by intro x hx hlt; simp at hx; have := hb.out; omega)⟩
  · have hn : textOf (some s) = (⟨#[]⟩, none) := by
      simp [failsB] at h
      rcases hx : textOf (some s) with ⟨n, r⟩
      rw [hx] at h
      simp at h
      have : n = ⟨#[]⟩ := by
        apply ByteArray.ext
        apply Array.toList_inj.1
        simpa using h.2
      simp [h, this]
    have Hn := hid hn
    clear hn
    go_enter Try.func27, Try.ntmps27
    go_wp2_with fail
    refine (new_c _ w hs).mono ?_
    rintro e w1 ⟨rfl, hr, hm1, hs1⟩
    clear hs1
    obtain ⟨b, hb⟩ : ∃ b, Hid (b = w.heap.size) := ⟨_, rfl⟩
    rw [← hb.out] at hr ⊢
    go_wp2_with fail
    refine (text_c _ _ _ _ hr).mono ?_
    rintro e w2 ⟨rfl, hr2, hm2⟩
    rw [Hn.out] at hr2 ⊢
    go_wp2_with fail
    refine (ok_c _ _ _ _ hr2).mono ?_
    rintro e w3 ⟨rfl, rfl⟩
    go_wp2
    go_ret
    exact ⟨rfl, hm1.trans hm2 (by simp) (by intro x hx hlt; simp at hx; have := hb.out; omega)⟩

theorem dig127 : Wire.digits 127 = [127] := Wire.digits_lt (by decide)
theorem dig300 : Wire.digits 300 = [172, 2] := by rw [Wire.digits_ge (by decide), Wire.digits_lt (by decide)]; rfl
theorem dig63 : Wire.digits 9223372036854775808 = [128, 128, 128, 128, 128, 128, 128, 128, 128, 1] := by
  repeat (rw [Wire.digits_ge (by decide)])
  rw [Wire.digits_lt (by decide)]; rfl
theorem dig64 : (⟨(Wire.digits 18446744073709551615).toArray⟩ : ByteArray) = ⟨#[255, 255, 255, 255, 255, 255, 255, 255, 255]⟩ ++ ⟨#[1]⟩ := by
  repeat (rw [Wire.digits_ge (by decide)])
  rw [Wire.digits_lt (by decide)]; rfl

def oddArr : Array Value := #[.string ⟨#[]⟩, .string ⟨#[129]⟩, .string ⟨#[128, 0]⟩, .string ⟨#[129, 0]⟩, .string (⟨#[255, 255, 255, 255, 255, 255, 255, 255, 255]⟩ ++ ⟨#[2]⟩), .string (⟨#[255, 255, 255, 255, 255, 255, 255, 255, 255]⟩ ++ ⟨#[129]⟩), .string (⟨#[255, 255, 255, 255, 255, 255, 255, 255, 255]⟩ ++ ⟨#[128, 1]⟩), .string ⟨#[255, 128, 0]⟩]

theorem odd_at (k : Nat) (h : k < 8) : ∃ s : ByteArray, oddArr[k]? = some (.string s) ∧ s.size ≤ 9223372036854775807 ∧ failsB s false = true ∧ failsB s true = true := by
  match k, h with
  | 0, _ => exact ⟨_, rfl, by decide, rfl, rfl⟩
  | 1, _ => exact ⟨_, rfl, by decide, rfl, rfl⟩
  | 2, _ => exact ⟨_, rfl, by decide, rfl, rfl⟩
  | 3, _ => exact ⟨_, rfl, by decide, rfl, rfl⟩
  | 4, _ => exact ⟨_, rfl, by decide, rfl, rfl⟩
  | 5, _ => exact ⟨_, rfl, by decide, rfl, rfl⟩
  | 6, _ => exact ⟨_, rfl, by decide, rfl, rfl⟩
  | 7, _ => exact ⟨_, rfl, by decide, rfl, rfl⟩

theorem num_nil (w : World) : Calls Try.prog 18 #[.pointer none] w fun e w' => e = .returned (.int .u64 0) ∧ w = w' := by
  go_enter Try.func18, Try.ntmps18
  go_wp2
  go_step3
  go_wp2
  rw [Exit.noGoto_ret]
  go_ret
  exact ⟨rfl, rfl⟩
theorem fail_nil (w : World) : Calls Try.prog 29 #[.pointer none] w fun e w' => e = .returned (.tuple #[]) ∧ w = w' := by
  go_enter Try.func29, Try.ntmps29
  go_wp2
  go_end0
  exact ⟨rfl, rfl⟩
theorem text_nil (w : World) : Calls Try.prog 16 #[.pointer none] w fun e w' => e = .returned (.string ⟨#[]⟩) ∧ w = w' := by
  go_enter Try.func16, Try.ntmps16
  go_wp2_with fail
  refine (num_nil _).mono ?_
  rintro e w' ⟨rfl, rfl⟩
  go_wp2_with (go_at_call 29; refine (fail_nil _).mono ?_; rintro e w' ⟨rfl, rfl⟩)
  go_wp2
  go_ret
  exact ⟨rfl, rfl⟩
theorem ok_nil (w : World) : Calls Try.prog 20 #[.pointer none] w fun e w' => e = .returned (.bool false) ∧ w = w' := by
  go_enter Try.func20, Try.ntmps20
  go_wp2
  go_ret
  exact ⟨rfl, rfl⟩
theorem end_nil (w : World) : Calls Try.prog 22 #[.pointer none] w fun e w' => e = .returned (.bool false) ∧ w = w' := by
  go_enter Try.func22, Try.ntmps22
  go_wp2
  go_ret
  exact ⟨rfl, rfl⟩

theorem two1 : numOf (some (⟨#[255, 255, 255, 255, 255, 255, 255, 255, 255]⟩ ++ ⟨#[1]⟩ ++ ⟨#[0]⟩)) = (18446744073709551615, some ⟨#[0]⟩) := by rfl
theorem two2 : textOf (some ⟨#[0]⟩) = (⟨#[]⟩, some ⟨#[]⟩) := by rfl
theorem two3 : numOf (some ⟨#[]⟩) = (0, none) := by rfl

set_option maxRecDepth 100000 in
set_option maxHeartbeats 4000000 in
theorem known_walk (w : World) :
    Calls Try.prog 9 #[] w fun e w' => e = .returned (.bool true) ∧ Mod [] w w' := by
  go_enter Try.func9, Try.ntmps9
  go_wp2_with fail
  refine (bytesOf_c 127 _ (by decide)).mono ?_
  rintro e w1 ⟨rfl, hm1⟩
  rw [dig127]
  go_wp2_with fail
  refine (bytesOf_c 300 _ (by decide)).mono ?_
  rintro e w2 ⟨rfl, hm2⟩
  rw [dig300]
  go_wp2_with fail
  refine (bytesOf_c 9223372036854775808 _ (by decide)).mono ?_
  rintro e w3 ⟨rfl, hm3⟩
  rw [dig63]
  go_wp2_with fail
  refine (bytesOf_c 18446744073709551615 _ (by decide)).mono ?_
  rintro e w4 ⟨rfl, hm4⟩
  rw [dig64]
  go_wp2_with fail
  refine (putText_c _ _ _ (by decide) (by decide)).mono ?_
  rintro e w5 ⟨rfl, hm5⟩
  have htx : (⟨#[]⟩ : ByteArray) ++ textB ⟨#[]⟩ = ⟨#[0]⟩ := by
    unfold textB
    rw [show (⟨#[]⟩ : ByteArray).size = 0 from rfl, dig0]
    rfl
  rw [htx]
  clear htx
  have hm := hid ((((hm1.tr hm2).tr hm3).tr hm4).tr hm5)
  clear hm1 hm2 hm3 hm4 hm5
  go_wp2_with fail
  obtain ⟨b, hb⟩ : ∃ b, Hid (b = w5.heap.size) := ⟨_, rfl⟩
  rw [← hb.out]
  go_loopg [3] 8 (fun g i wr => ∃ k : Nat, i = .int .i64 k ∧ k + g = 8 ∧ Hid (Blk wr b oddArr 47) ∧ Hid (Mod [] w wr))
  case atStart => exact ⟨0, rfl, rfl, by rw [hb.out]; exact Blk.new _ _ _, hm.out.alloc _⟩
  case round =>
    obtain ⟨k, rfl, hkg, hblk, hmr⟩ := hrel
    by_cases hk : k < 8
    · obtain ⟨s, h1, h2, h3, h4⟩ := odd_at k hk
      have hc := hblk.out.cell k
      rw [h1] at hc
      have h1' := hid h1
      have h3' := hid h3
      have h4' := hid h4
      clear h1 h3 h4
      go_wp2_with fail
      refine (fails_c _ _ _ h2 h3'.out).mono ?_
      rintro e w6 ⟨rfl, hm6⟩
      have hblk6 := hm6.blk hblk.out (by simp)
      have hc6 := hblk6.cell k
      rw [h1'.out] at hc6
      have hblk6 := hid hblk6
      rename_i hx; clear hx
      go_wp2_with fail
      refine (fails_c _ _ _ h2 h4'.out).mono ?_
      rintro e w7 ⟨rfl, hm7⟩
      have hblk7 := hid (hm7.blk hblk6.out (by simp))
      go_wp2
      go_roundg (gk - 1)
      case measure => omega
      case rel => exact ⟨k + 1, by go_num, by omega, hblk7, (hmr.out.tr hm6).tr hm7⟩
    · go_wp2_with fail
      refine (fails_c _ _ _ (by decide) rfl).mono ?_
      rintro e w6 ⟨rfl, hm6⟩
      go_wp2_with fail
      refine (fails_c _ _ _ (by decide) rfl).mono ?_
      rintro e w7 ⟨rfl, hm7⟩
      go_wp2_with fail
      refine (fails_c _ _ _ (by decide) rfl).mono ?_
      rintro e w8 ⟨rfl, hm8⟩
      have hmz := hid (((hmr.out.tr hm6).tr hm7).tr hm8)
      clear hm6 hm7 hm8 hmr hm
      go_wp2_with fail
      refine (new_c _ _ (by decide)).mono ?_
      rintro e w9 ⟨rfl, hr, hm9, hs9⟩
      clear hs9
      obtain ⟨b2, hb2⟩ : ∃ b, Hid (b = w8.heap.size) := ⟨_, rfl⟩
      rw [← hb2.out] at hr ⊢
      go_wp2_with fail
      refine (num_c _ _ _ _ hr).mono ?_
      rintro e w10 ⟨rfl, hr10, hm10⟩
      rw [two1] at hr10 ⊢
      go_wp2_with fail
      have hrd : rdL (some ⟨#[]⟩) = ⟨#[]⟩ := rfl
      have hrd2 : rdL (some ⟨#[0]⟩) = ⟨#[0]⟩ := rfl
      refine (end_c _ _ _ _ hr10).mono ?_
      rintro e w11 ⟨rfl, rfl⟩
      go_wp2_with fail
      refine (text_c _ _ _ _ hr10).mono ?_
      rintro e w12 ⟨rfl, hr12, hm12⟩
      rw [two2] at hr12 ⊢
      go_wp2_with fail
      refine (end_c _ _ _ _ hr12).mono ?_
      rintro e w13 ⟨rfl, rfl⟩
      go_wp2_with fail
      refine (num_c _ _ _ _ hr12).mono ?_
      rintro e w14 ⟨rfl, hr14, hm14⟩
      rw [two3] at hr14 ⊢
      go_wp2_with fail
      refine (ok_c _ _ _ _ hr14).mono ?_
      rintro e w15 ⟨rfl, rfl⟩
      have hM : Hid (Mod [b2] w8 w14) := by
        refine Mod.trans (Mod.trans (Mod.trans hm9 hm10 (m := [b2]) (by simp) (by simp)) hm12 (m := [b2]) (by simp) (by simp)) hm14 (by simp) (by simp)
      have hMM : Hid (Mod [] w w14) := hmz.out.trans hM.out (by simp) (by intro x hx hlt; simp at hx; have := hb2.out; have := hmz.out.size; omega)
      clear hr14 hr12 hr10 hr hm9 hm10 hm12 hm14
      go_wp2_with (first | (go_at_call 18; refine (num_nil _).mono ?_; rintro e w' ⟨rfl, rfl⟩) | (go_at_call 16; refine (text_nil _).mono ?_; rintro e w' ⟨rfl, rfl⟩) | (go_at_call 20; refine (ok_nil _).mono ?_; rintro e w' ⟨rfl, rfl⟩) | (go_at_call 22; refine (end_nil _).mono ?_; rintro e w' ⟨rfl, rfl⟩) | (go_at_call 14; refine (works_c _).mono ?_; rintro e w16 ⟨rfl, hm16⟩))
      go_ret
      exact ⟨rfl, hMM.out.tr hm16⟩

end Go.Proofs.Ytmjbpnoemdnhbaa
