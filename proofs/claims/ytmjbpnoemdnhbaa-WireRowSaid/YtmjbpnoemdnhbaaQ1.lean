/- What a reader makes of the beginnings of some bytes: at most one is a number's, at most one a text's. -/
import Derived.Test.YtmjbpnoemdnhbaaR3
import Derived.Test.YtmjbpnoemdnhbaaP2
import Derived.Test.YtmjbpnoemdnhbaaT3
namespace Go.Proofs.Ytmjbpnoemdnhbaa
open Go.RowKit

/-- Behind Num (Text) the reader of the first k bytes is at its end. -/
def atEnd (st : Option ByteArray) : Bool := st.isSome && (rdL st).toList.isEmpty
def numEnd (t : ByteArray) (k : Nat) : Bool := atEnd (numOf (some (t.extract 0 k))).2
def textEnd (t : ByteArray) (k : Nat) : Bool := atEnd (textOf (some (t.extract 0 k))).2

theorem extract_list (t : ByteArray) (a b : Nat) : (t.extract a b).data.toList = (t.data.toList.take b).drop a := by
  simp [List.drop_take]

theorem isEmpty_iff (t : ByteArray) : t.toList.isEmpty = true ↔ t.data.toList = [] := by
  rw [ByteArray.toList_eq]; simp

theorem ba_ext {a b : ByteArray} (h : a.data.toList = b.data.toList) : a = b := ByteArray.ext (Array.toList_inj.1 h)

theorem atEnd_iff (st : Option ByteArray) : atEnd st = true ↔ ∃ r, st = some r ∧ r.data.toList = [] := by
  cases st with
  | none => simp [atEnd]
  | some r => simp [atEnd, rdL, ByteArray.toList_eq]

/-- The number at the beginning of some bytes, and that it is all of them. -/
theorem numEnd_iff (u : ByteArray) : atEnd (numOf (some u)).2 = true ↔ ∃ n, Wire.num? u.data.toList 0 0 = some (n, u.size) := by
  rw [atEnd_iff]
  cases h : Wire.num? u.data.toList 0 0 with
  | none => simp [numOf, h]
  | some p =>
    obtain ⟨n, k⟩ := p
    rw [numOf_some h]
    have hk := Wire.num_count _ _ _ _ _ h
    have hsz : u.data.toList.length = u.size := by simp
    constructor
    · rintro ⟨r, hr, he⟩
      simp only [Option.some.injEq] at hr
      subst hr
      rw [extract_list] at he
      have := congrArg List.length he
      simp at this
      refine ⟨n, ?_⟩
      congr 2
      omega
    · rintro ⟨n', hn'⟩
      simp only [Option.some.injEq, Prod.mk.injEq] at hn'
      refine ⟨_, rfl, ?_⟩
      rw [hn'.2, extract_list]
      apply List.eq_nil_of_length_eq_zero
      simp

theorem numEnd_is (u : ByteArray) (h : atEnd (numOf (some u)).2 = true) : (⟨(Wire.digits (numOf (some u)).1).toArray⟩ : ByteArray) = u ∧ (numOf (some u)).1 < 18446744073709551616 := by
  obtain ⟨n, hn⟩ := (numEnd_iff u).1 h
  rw [numOf_some hn]
  obtain ⟨h1, h2, h3⟩ := Wire.num_sound hn
  refine ⟨ba_ext ?_, by simpa using h3⟩
  rw [List.take_of_length_le (by simp)] at h2
  simpa using h2.symm

theorem take_more {α : Type} (l : List α) (a b : Nat) (h : a ≤ b) : ∃ r, l.take b = l.take a ++ r := by
  refine ⟨(l.take b).drop a, ?_⟩
  have := List.take_append_drop a (l.take b)
  rw [List.take_take, Nat.min_eq_left h] at this
  exact this.symm

theorem numEnd_once (t : ByteArray) (a b : Nat) (h : a < b) (hb : b ≤ t.size) (h1 : numEnd t a = true) : numEnd t b = false := by
  cases hx : numEnd t b with
  | false => rfl
  | true =>
    obtain ⟨n, hn⟩ := (numEnd_iff _).1 h1
    obtain ⟨m, hm⟩ := (numEnd_iff _).1 hx
    rw [extract_list, List.drop_zero] at hn hm
    obtain ⟨r, hr⟩ := take_more t.data.toList a b (by omega)
    rw [hr, Wire.num_more _ r _ _ _ _ hn] at hm
    simp at hm
    omega

theorem textEnd_iff (u : ByteArray) : atEnd (textOf (some u)).2 = true ↔ ∃ n k, Wire.num? u.data.toList 0 0 = some (n, k) ∧ k + n = u.size := by
  cases h : Wire.num? u.data.toList 0 0 with
  | none =>
    rw [textOf_fail (numOf_none h)]
    simp [atEnd]
  | some p =>
    obtain ⟨n, k⟩ := p
    have hk := Wire.num_count _ _ _ _ _ h
    have hsz : u.data.toList.length = u.size := by simp
    have hu : (u.extract k u.size).size = u.size - k := by simp
    by_cases hn : n ≤ (u.extract k u.size).size
    · rw [textOf_text (numOf_some h) hn, atEnd_iff]
      constructor
      · rintro ⟨r, hr, he⟩
        simp only [Option.some.injEq] at hr
        subst hr
        refine ⟨n, k, rfl, ?_⟩
        have := congrArg List.length he
        simp at this
        omega
      · rintro ⟨n', k', e, hs⟩
        simp only [Option.some.injEq, Prod.mk.injEq] at e
        refine ⟨_, rfl, ?_⟩
        apply List.eq_nil_of_length_eq_zero
        simp
        omega
    · rw [textOf_long (numOf_some h) hn]
      constructor
      · intro h'; simp [atEnd] at h'
      · rintro ⟨n', k', e, hs⟩
        simp only [Option.some.injEq, Prod.mk.injEq] at e
        omega

theorem textEnd_is (u : ByteArray) (h : atEnd (textOf (some u)).2 = true) : textB (textOf (some u)).1 = u ∧ (textOf (some u)).1.size ≤ u.size := by
  obtain ⟨n, k, hn, hs⟩ := (textEnd_iff u).1 h
  have hk := Wire.num_count _ _ _ _ _ hn
  obtain ⟨h1, h2, h3⟩ := Wire.num_sound hn
  have hu : (u.extract k u.size).size = u.size - k := by simp
  rw [textOf_text (numOf_some hn) (by omega)]
  have hsz : ((u.extract k u.size).extract 0 n).size = n := by simp; omega
  refine ⟨?_, by show ((u.extract k u.size).extract 0 n).size ≤ _; omega⟩
  show textB ((u.extract k u.size).extract 0 n) = u
  unfold textB
  rw [hsz]
  apply ba_ext
  have e1 : ((u.extract k u.size).extract 0 n).data.toList = u.data.toList.drop k := by
    rw [extract_list, extract_list, List.drop_zero, List.take_of_length_le (show u.data.toList.length ≤ u.size by simp)]
    apply List.take_of_length_le
    have : u.data.toList.length = u.size := by simp
    rw [List.length_drop]; omega
  have e2 : ∀ (a b : ByteArray), (a ++ b).data.toList = a.data.toList ++ b.data.toList := by intro a b; simp
  rw [e2, e1]
  show Wire.digits n ++ _ = _
  rw [← h2, List.take_append_drop]

theorem textEnd_once (t : ByteArray) (a b : Nat) (h : a < b) (hb : b ≤ t.size) (h1 : textEnd t a = true) : textEnd t b = false := by
  cases hx : textEnd t b with
  | false => rfl
  | true =>
    obtain ⟨n, k, hn, hs⟩ := (textEnd_iff _).1 h1
    obtain ⟨m, j, hm, hs2⟩ := (textEnd_iff _).1 hx
    rw [extract_list, List.drop_zero] at hn hm
    obtain ⟨r, hr⟩ := take_more t.data.toList a b (by omega)
    rw [hr, Wire.num_more _ r _ _ _ _ hn] at hm
    simp at hm hs hs2
    omega
end Go.Proofs.Ytmjbpnoemdnhbaa
