/- PutText of wire and of the reference. -/
import Derived.Test.YthofkkmnngmafaaT2
namespace Go.Proofs.Ythofkkmnngmafaa
open Go.RowKit

/-- A text's bytes. -/
def textB (t : ByteArray) : ByteArray := ⟨(Wire.digits t.size).toArray⟩ ++ t

theorem digits_len10 (n : Nat) (hn : n < 18446744073709551616) : (Wire.digits n).length ≤ 10 := Wire.digits_len_le 10 n (by omega) (by omega)

theorem rputText_c (s t : ByteArray) (w : World) (hs : s.size ≤ 140737488351232) (ht : t.size ≤ 140737488351232) :
    Calls Try.prog 66 #[.string s, .string t] w fun e w' => e = .returned (.string (s ++ textB t)) ∧ Mod [] w w' := by
  have hd := digits_len10 t.size (by omega)
  have hfin : Hid (s ++ ⟨(Wire.digits t.size).toArray⟩ ++ t = s ++ textB t) := by
    show _ = _
    unfold textB
    apply ByteArray.ext
    simp
  go_enter Try.func66, Try.ntmps66
  go_wp2_with fail
  refine (rput_c s t.size w hs (by omega)).mono ?_
  rintro e w1 ⟨rfl, hm⟩
  have hz : (s ++ ⟨(Wire.digits t.size).toArray⟩ : ByteArray).size ≤ s.size + 10 := by simp [ByteArray.size_mk']; omega
  go_wp2
  go_ret
  exact ⟨ret_val (congrArg Value.string hfin.out), hm⟩

theorem putText_c (s t : ByteArray) (w : World) (hs : s.size ≤ 140737488351232) (ht : t.size ≤ 140737488351232) :
    Calls Try.prog 51 #[.string s, .string t] w fun e w' => e = .returned (.string (s ++ textB t)) ∧ Mod [] w w' := by
  have hd := digits_len10 t.size (by omega)
  have hfin : Hid (s ++ ⟨(Wire.digits t.size).toArray⟩ ++ t = s ++ textB t) := by
    show _ = _
    unfold textB
    apply ByteArray.ext
    simp
  go_enter Try.func51, Try.ntmps51
  go_wp2_with fail
  refine (put_c s t.size w hs (by omega)).mono ?_
  rintro e w1 ⟨rfl, hm⟩
  have hz : (s ++ ⟨(Wire.digits t.size).toArray⟩ : ByteArray).size ≤ s.size + 10 := by simp [ByteArray.size_mk']; omega
  go_wp2
  go_ret
  exact ⟨ret_val (congrArg Value.string hfin.out), hm⟩

theorem dig0 : Wire.digits 0 = [0] := Wire.digits_lt (by decide)
theorem dig128 : Wire.digits 128 = [128, 1] := by rw [Wire.digits_ge (by decide), Wire.digits_lt (by decide)]; rfl
theorem text_ab : (⟨#[120]⟩ : ByteArray) ++ textB ⟨#[97, 98]⟩ = ⟨#[120, 2, 97, 98]⟩ := by
  unfold textB
  rw [show (⟨#[97, 98]⟩ : ByteArray).size = 2 from rfl, Wire.digits_lt (by decide)]
  rfl
end Go.Proofs.Ythofkkmnngmafaa
