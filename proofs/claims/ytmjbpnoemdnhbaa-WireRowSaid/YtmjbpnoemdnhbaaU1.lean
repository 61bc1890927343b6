/- works of the laws on wire: true. -/
import Derived.Test.YtmjbpnoemdnhbaaT3
import Derived.Test.YtmjbpnoemdnhbaaR3
namespace Go.Proofs.Ytmjbpnoemdnhbaa
open Go.RowKit

theorem num_ex1 : numOf (some ⟨#[5, 0, 1, 97]⟩) = (5, some ⟨#[0, 1, 97]⟩) := by rfl
theorem text_ex1 : textOf (some ⟨#[0, 1, 97]⟩) = (⟨#[]⟩, some ⟨#[1, 97]⟩) := by rfl
theorem text_ex2 : textOf (some ⟨#[1, 97]⟩) = (⟨#[97]⟩, some ⟨#[]⟩) := by rfl

/-- works: closed. -/
theorem works_c (w : World) :
    Calls Try.prog 14 #[] w fun e w' => e = .returned (.bool true) ∧ Mod [] w w' := by
  go_enter Try.func14, Try.ntmps14
  go_wp2_with fail
  refine (new_c _ w (by decide)).mono ?_
  rintro e w1 ⟨rfl, hr, hm1, hs1⟩
  clear hs1
  obtain ⟨b, hbe⟩ : ∃ b, Hid (b = w.heap.size) := ⟨_, rfl⟩
  rw [← hbe.out] at hr ⊢
  go_wp2_with fail
  refine (bytesOf_c 0 _ (by decide)).mono ?_
  rintro e w2 ⟨rfl, hm2⟩
  rw [dig0]
  go_wp2_with fail
  refine (bytesOf_c 128 _ (by decide)).mono ?_
  rintro e w3 ⟨rfl, hm3⟩
  rw [dig128]
  go_wp2_with fail
  refine (putText_c _ _ _ (by decide) (by decide)).mono ?_
  rintro e w4 ⟨rfl, hm4⟩
  rw [text_ab]
  have hr4 := ((hr.mod hm2 (by simp)).mod hm3 (by simp)).mod hm4 (by simp)
  go_wp2_with fail
  refine (num_c _ _ _ _ hr4).mono ?_
  rintro e w5 ⟨rfl, hr5, hm5⟩
  rw [num_ex1] at hr5
  rw [num_ex1]
  go_wp2_with fail
  refine (text_c _ _ _ _ hr5).mono ?_
  rintro e w6 ⟨rfl, hr6, hm6⟩
  rw [text_ex1] at hr6
  rw [text_ex1]
  go_wp2_with fail
  refine (text_c _ _ _ _ hr6).mono ?_
  rintro e w7 ⟨rfl, hr7, hm7⟩
  rw [text_ex2] at hr7
  rw [text_ex2]
  go_wp2_with fail
  have hrd : rdL (some ⟨#[]⟩) = ⟨#[]⟩ := rfl
  refine (end_c _ _ _ _ hr7).mono ?_
  rintro e w8 ⟨rfl, rfl⟩
  go_wp2_with fail
  refine (ok_c _ _ _ _ hr7).mono ?_
  rintro e w8 ⟨rfl, rfl⟩
  go_wp2
  go_ret
  refine ⟨rfl, ?_⟩
  exact ((((((hm1.tr hm2).tr hm3).tr hm4).trans hm5 (m := [b]) (by simp) (by simp)).trans hm6 (m := [b]) (by simp) (by simp)).trans hm7 (m := [b]) (by simp) (by simp)).mono (by intro x hx hlt; simp at hx; have := hbe.out; omega)

end Go.Proofs.Ytmjbpnoemdnhbaa
