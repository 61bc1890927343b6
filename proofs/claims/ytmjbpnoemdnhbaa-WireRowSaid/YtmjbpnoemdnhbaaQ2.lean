/- An item that was put is read back; a beginning of it is none. No program in sight. -/
import Derived.Test.YtmjbpnoemdnhbaaQ1
import Derived.Test.YtmjbpnoemdnhbaaI2
namespace Go.Proofs.Ytmjbpnoemdnhbaa
set_option linter.unusedVariables false
set_option linter.unusedSimpArgs false
open Go.RowKit

theorem ba_list (a b : ByteArray) : (a ++ b).data.toList = a.data.toList ++ b.data.toList := by simp
theorem ba_size (a : ByteArray) : a.size = a.data.toList.length := by rw [Array.length_toList]; rfl

theorem num_back (n : Nat) (hn : n < 18446744073709551616) (r : ByteArray) : numOf (some (⟨(Wire.digits n).toArray⟩ ++ r)) = (n, some r) := by
  have h := Wire.num_digits r.data.toList n (by omega)
  rw [numOf_some (n := n) (k := (Wire.digits n).length) (by rw [ba_list]; simpa using h)]
  congr 2
  apply ba_ext
  rw [extract_list, List.take_of_length_le (by rw [← ba_size]; exact Nat.le_refl _), ba_list]
  simp
theorem text_back (t : ByteArray) (ht : t.size < 18446744073709551616) (r : ByteArray) : textOf (some (textB t ++ r)) = (t, some r) := by
  have e : textB t ++ r = ⟨(Wire.digits t.size).toArray⟩ ++ (t ++ r) := by
    apply ba_ext
    simp [textB, ba_list]
  rw [e, textOf_text (n := t.size) (r := t ++ r) (num_back _ ht _) (by rw [ba_size, ba_size, ba_list]; simp)]
  congr 2
  · apply ba_ext
    rw [extract_list, ba_list, ba_size]; simp
  · apply ba_ext
    rw [extract_list, List.take_of_length_le (by rw [← ba_size]; exact Nat.le_refl _), ba_list, ba_size]; simp

/-- What is read of a reader's state, and what is left, if an item is asked for. -/
def askOf (x : Item) (st : Option ByteArray) : Bool × Option ByteArray :=
  if x.isT then (decide ((textOf st).1 = cut x.s 200), (textOf st).2) else (decide ((numOf st).1 = x.n), (numOf st).2)

theorem ask_back (x : Item) (r : ByteArray) : askOf x (some (itemB x ++ r)) = (true, some r) := by
  unfold askOf itemB
  split
  · have := cut_size x.s 200
    rw [text_back _ (by omega)]
    simp
  · rw [num_back _ x.hn]
    simp

/-- A beginning of an item is none. -/
theorem item_cut (x : Item) (p : ByteArray) (j : Nat) (hj : j < (itemB x).size) (hp : p.data.toList = (itemB x).data.toList.take j) :
    (x.isT = true → textOf (some p) = (⟨#[]⟩, none)) ∧ (x.isT = false → numOf (some p) = (0, none)) := by
  refine ⟨fun hT => ?_, fun hT => ?_⟩
  · unfold itemB at hj hp
    rw [if_pos hT] at hj hp
    have hcz := cut_size x.s 200
    generalize cut x.s 200 = t at *
    have hl : (textB t).data.toList = Wire.digits t.size ++ t.data.toList := by simp [textB, ba_list]
    rw [hl] at hp
    rw [ba_size, hl, List.length_append] at hj
    rcases Nat.lt_or_ge j (Wire.digits t.size).length with h | h
    · refine textOf_fail (n := 0) (numOf_none ?_)
      rw [hp, List.take_append_of_le_length (by omega)]
      exact Wire.num_cut _ _ (by omega) h
    · have e : p = ⟨(Wire.digits t.size).toArray⟩ ++ (t.extract 0 (j - (Wire.digits t.size).length)) := by
        apply ba_ext
        rw [hp, ba_list, extract_list, List.take_append, List.take_of_length_le h]
        simp
      rw [e]
      refine textOf_long (num_back _ (by omega) _) ?_
      rw [← ba_size] at hj
      rw [ByteArray.size_extract]
      omega
  · unfold itemB at hj hp
    rw [if_neg (by simp [hT])] at hj hp
    refine numOf_none ?_
    rw [hp]
    refine Wire.num_cut _ _ (by have := x.hn; omega) ?_
    simpa [ba_size] using hj

theorem gone_text : textOf none = (⟨#[]⟩, none) := rfl
theorem gone_num : numOf none = (0, none) := rfl

end Go.Proofs.Ytmjbpnoemdnhbaa
