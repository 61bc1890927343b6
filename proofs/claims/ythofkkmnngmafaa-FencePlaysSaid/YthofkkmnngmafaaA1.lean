/- Small facts on bytes and on 64-bit numbers, in the walk's own words. -/
import Derived.Test.YthofkkmnngmafaaP1
import Derived.Test.YthofkkmnngmafaaK1
import Derived.WalkKit
import Derived.WalkSpells
import Derived.WalkLawsBesides
import Derived.Deep.LoopGhost
import Derived.Handy
namespace Go.Proofs.Ythofkkmnngmafaa
open Go.RowKit

theorem pow7 (m : Nat) : 2 ^ (7 * m) = 128 ^ m := by rw [Nat.pow_mul]

/-- A digit is put behind those that are there: an 'or' is a sum. -/
theorem or_digit (acc c m : Nat) (ha : acc < 128 ^ m) (hs : acc + c * 128 ^ m < 18446744073709551616) :
    bits BinOp.or IntKind.u64 (acc : Int) (IntKind.u64.wrap ((c : Int) * 2 ^ (7 * m))) = ((acc + c * 128 ^ m : Nat) : Int) := by
  have e : ((c : Int) * 2 ^ (7 * m)) = ((c * 128 ^ m : Nat) : Int) := by
    rw [← pow7]; push_cast; rfl
  rw [e, IntKind.wrap_u64]
  have e2 : (((c * 128 ^ m : Nat) : Int) % 18446744073709551616) = ((c * 128 ^ m : Nat) : Int) := by omega
  rw [e2, u64_or _ _ (by omega) (by omega) (by omega) (by omega)]
  congr 1
  rw [Int.toNat_natCast, Int.toNat_natCast, Nat.or_comm, Nat.mul_comm, ← pow7]
  rw [← Nat.two_pow_add_eq_or_of_lt (by rw [pow7]; exact ha)]
  omega

theorem low7 (c : Nat) (h1 : 128 ≤ c) (h2 : c < 256) : IntKind.u64.wrap (bits BinOp.andNot IntKind.u8 (c : Int) 128) = ((c - 128 : Nat) : Int) := by
  rw [show (128 : Int) = ((128 : Nat) : Int) from rfl, u8_andNot _ _ (by omega) (by omega) (by omega) (by omega)]
  simp only [Int.toNat_natCast]
  have : c &&& (255 - 128) = c - 128 := by
    rw [show (255 - 128 : Nat) = 2 ^ 7 - 1 from rfl, Nat.and_two_pow_sub_one_eq_mod]; omega
  rw [this, IntKind.wrap_u64]; omega

theorem digit_fits (c m acc : Nat) (hm : m < 10) (hc : c < 128) (ho : ¬((0 < m ∧ c = 0) ∨ (m = 9 ∧ 1 < c))) (ha : acc < 128 ^ m) : acc + c * 128 ^ m < 18446744073709551616 := by
  by_cases h : m = 9
  · subst h
    have h1 : c * 128 ^ 9 ≤ 1 * 128 ^ 9 := Nat.mul_le_mul_right _ (by omega)
    have h2 : (128 : Nat) ^ 9 = 9223372036854775808 := by decide
    omega
  · have h1 : c * 128 ^ m ≤ 127 * 128 ^ m := Nat.mul_le_mul_right _ (by omega)
    have h2 : 128 ^ m ≤ 128 ^ 8 := Nat.pow_le_pow_right (by decide) (by omega)
    have h3 : (128 : Nat) ^ 8 = 72057594037927936 := by decide
    omega

theorem more_fits (c m acc : Nat) (hm : m < 10) (h1 : 128 ≤ c) (h2 : c < 256) (ho : ¬((0 < m ∧ c = 0) ∨ (m = 9 ∧ 1 < c))) (ha : acc < 128 ^ m) : acc + (c - 128) * 128 ^ m < 18446744073709551616 := by
  have h1 : (c - 128) * 128 ^ m ≤ 127 * 128 ^ m := Nat.mul_le_mul_right _ (by omega)
  have h2 : 128 ^ m ≤ 128 ^ 8 := Nat.pow_le_pow_right (by decide) (by omega)
  have h3 : (128 : Nat) ^ 8 = 72057594037927936 := by decide
  omega

theorem more_lt (c m acc : Nat) (h1 : 128 ≤ c) (h2 : c < 256) (ha : acc < 128 ^ m) : acc + (c - 128) * 128 ^ m < 128 ^ (m + 1) := by
  have h1 : (c - 128) * 128 ^ m ≤ 127 * 128 ^ m := Nat.mul_le_mul_right _ (by omega)
  rw [Nat.pow_succ]; omega

theorem num_step (s : ByteArray) (m acc : Nat) (h : m < s.size) (hm : m < 10) (ho : ¬((0 < m ∧ (s[m]'h).toNat = 0) ∨ (m = 9 ∧ 1 < (s[m]'h).toNat))) :
    Wire.num? (s.data.toList.drop m) m acc = if (s[m]'h).toNat < 128 then some (acc + (s[m]'h).toNat * 128 ^ m, m + 1) else Wire.num? (s.data.toList.drop (m + 1)) (m + 1) (acc + ((s[m]'h).toNat - 128) * 128 ^ m) := by
  have e : s.data.toList.drop m = s[m]'h :: s.data.toList.drop (m + 1) := by
    rw [List.drop_eq_getElem_cons (by simpa using h)]; rfl
  rw [e, Wire.num?, if_neg (by omega), if_neg ho]

theorem num_odd (s : ByteArray) (m acc : Nat) (h : m < s.size) (ho : ((0 < m ∧ (s[m]'h).toNat = 0) ∨ (m = 9 ∧ 1 < (s[m]'h).toNat))) :
    Wire.num? (s.data.toList.drop m) m acc = none := by
  have e : s.data.toList.drop m = s[m]'h :: s.data.toList.drop (m + 1) := by
    rw [List.drop_eq_getElem_cons (by simpa using h)]; rfl
  rw [e, Wire.num?]
  simp only [if_pos ho, ite_self]

theorem num_end (s : ByteArray) (m acc : Nat) (h : s.size ≤ m) : Wire.num? (s.data.toList.drop m) m acc = none := by
  rw [List.drop_of_length_le (by simpa using h)]; rfl

theorem num_ten (l : List UInt8) (m acc : Nat) (h : 10 ≤ m) : Wire.num? l m acc = none := by
  cases l with
  | nil => rfl
  | cons c l => rw [Wire.num?, if_pos h]
end Go.Proofs.Ythofkkmnngmafaa
