/- More of the plain law of numbers as bytes: how many digits a number has; what a reader makes of a beginning. No program in sight. -/
import Derived.Test.YtmjbpnoemdnhbaaP1
namespace Wire

theorem digits_len_mono : ∀ (b a : Nat), a ≤ b → (digits a).length ≤ (digits b).length := by
  intro b
  induction b using Nat.strongRecOn with
  | ind b ih =>
    intro a h
    by_cases ha : a < 128
    · rw [digits_lt ha]; exact digits_len_pos b
    · rw [digits_ge ha, digits_ge (by omega : ¬ b < 128)]
      have := ih (b / 128) (by omega) (a / 128) (by omega)
      simpa using this

theorem digits_len_less (a b : Nat) (h0 : a ≠ 0) (h : a ≤ b / 128) : (digits a).length < (digits b).length := by
  rw [digits_ge (by omega : ¬ b < 128)]
  have := digits_len_mono (b / 128) a h
  simp; omega

/-- One digit more. -/
theorem digits_len_step (m : Nat) (h : 0 < m / 128) : (digits m).length = 1 + (digits (m / 128)).length := by
  rw [digits_ge (by omega)]; simp; omega
theorem digits_len_one (m : Nat) (h : m / 128 = 0) : (digits m).length = 1 := by
  rw [digits_lt (by omega)]; rfl

/-- What is read does not hang on what stands behind it. -/
theorem num_more : ∀ (l r : List UInt8) (i acc n k : Nat), num? l i acc = some (n, k) → num? (l ++ r) i acc = some (n, k) := by
  intro l
  induction l with
  | nil => intro r i acc n k h; simp [num?] at h
  | cons c l ih =>
    intro r i acc n k h
    simp only [num?, List.cons_append] at h ⊢
    by_cases h1 : 10 ≤ i
    · rw [if_pos h1] at h; cases h
    rw [if_neg h1] at h ⊢
    by_cases h2 : (0 < i ∧ c.toNat = 0) ∨ (i = 9 ∧ 1 < c.toNat)
    · rw [if_pos h2] at h; cases h
    rw [if_neg h2] at h ⊢
    by_cases h3 : c.toNat < 128
    · rw [if_pos h3] at h ⊢; exact h
    · rw [if_neg h3] at h ⊢; exact ih r _ _ _ _ h

theorem num_count : ∀ (l : List UInt8) (i acc n k : Nat), num? l i acc = some (n, k) → i < k ∧ k ≤ i + l.length := by
  intro l
  induction l with
  | nil => intro i acc n k h; simp [num?] at h
  | cons c l ih =>
    intro i acc n k h
    simp only [num?] at h
    by_cases h1 : 10 ≤ i
    · rw [if_pos h1] at h; cases h
    rw [if_neg h1] at h
    by_cases h2 : (0 < i ∧ c.toNat = 0) ∨ (i = 9 ∧ 1 < c.toNat)
    · rw [if_pos h2] at h; cases h
    rw [if_neg h2] at h
    by_cases h3 : c.toNat < 128
    · rw [if_pos h3] at h
      simp only [Option.some.injEq, Prod.mk.injEq] at h
      simp; omega
    · rw [if_neg h3] at h
      have := ih _ _ _ _ h
      simp; omega

/-- A number's beginning is no number. -/
theorem num_cut (n j : Nat) (h : n < 2 ^ 64) (hj : j < (digits n).length) : num? ((digits n).take j) 0 0 = none := by
  cases hx : num? ((digits n).take j) 0 0 with
  | none => rfl
  | some p =>
    obtain ⟨m, k⟩ := p
    have h1 := num_more _ ((digits n).drop j) _ _ _ _ hx
    rw [List.take_append_drop] at h1
    have h2 := num_digits [] n h
    rw [List.append_nil] at h2
    rw [h2] at h1
    simp only [Option.some.injEq, Prod.mk.injEq] at h1
    have h3 := num_count _ _ _ _ _ hx
    simp at h3
    omega

end Wire
