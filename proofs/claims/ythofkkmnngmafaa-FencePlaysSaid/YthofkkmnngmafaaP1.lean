/- The plain law of numbers and texts as bytes: digits to the base 128, and what a reader makes of bytes. No program in sight. -/
namespace Wire

/-- The digits of a number to the base 128, the lowest first, each but the last one marked by 128. -/
def digits (n : Nat) : List UInt8 :=
  if n < 128 then [UInt8.ofNat n] else UInt8.ofNat (128 + n % 128) :: digits (n / 128)
termination_by n
decreasing_by omega

/-- What a reader makes of bytes, the next digit being number i, the sum of those before it acc: the number, and how many bytes it has in all. -/
def num? : List UInt8 → Nat → Nat → Option (Nat × Nat)
  | [], _, _ => none
  | c :: l, i, acc =>
    if 10 ≤ i then none
    else if (0 < i ∧ c.toNat = 0) ∨ (i = 9 ∧ 1 < c.toNat) then none
    else if c.toNat < 128 then some (acc + c.toNat * 128 ^ i, i + 1)
    else num? l (i + 1) (acc + (c.toNat - 128) * 128 ^ i)

theorem digits_lt {n : Nat} (h : n < 128) : digits n = [UInt8.ofNat n] := by rw [digits, if_pos h]
theorem digits_ge {n : Nat} (h : ¬ n < 128) : digits n = UInt8.ofNat (128 + n % 128) :: digits (n / 128) := by rw [digits, if_neg h]

theorem digits_len_pos (n : Nat) : 1 ≤ (digits n).length := by
  unfold digits; split <;> simp

theorem digits_len_le (k : Nat) : ∀ n, n < 128 ^ k → 1 ≤ k → (digits n).length ≤ k := by
  induction k with
  | zero => intro n _ h; omega
  | succ k ih =>
    intro n hn _
    by_cases h : n < 128
    · rw [digits_lt h]; simp
    · rw [digits_ge h]
      have h2 : n / 128 < 128 ^ k := by rw [Nat.pow_succ] at hn; omega
      have hk : 1 ≤ k := by
        rcases k with _ | k
        · simp at h2; omega
        · omega
      have := ih (n / 128) h2 hk
      simp; omega

theorem u8 {n : Nat} (h : n < 256) : (UInt8.ofNat n).toNat = n := by simp; omega

/-- A number's digits are read back. -/
theorem num_digits_at (r : List UInt8) : ∀ (n i acc : Nat), n * 128 ^ i < 2 ^ 64 → i ≤ 9 → (0 < i → 0 < n) → num? (digits n ++ r) i acc = some (acc + n * 128 ^ i, i + (digits n).length) := by
  intro n
  induction n using Nat.strongRecOn with
  | ind n ih =>
    intro i acc hn hi hp
    have h9 : i = 9 → n ≤ 1 := by
      intro e; subst e
      simp at hn; omega
    by_cases h : n < 128
    · rw [digits_lt h]
      simp only [List.cons_append, List.nil_append, num?, List.length_cons, List.length_nil, u8 (show n < 256 by omega)]
      rw [if_neg (by omega), if_neg (by omega), if_pos h]
    · have hi9 : i < 9 := by
        rcases Nat.lt_or_ge i 9 with h' | h'
        · exact h'
        · have := h9 (by omega); omega
      rw [digits_ge h]
      simp only [List.cons_append, num?, List.length_cons, u8 (show 128 + n % 128 < 256 by omega)]
      rw [if_neg (by omega), if_neg (by omega), if_neg (by omega)]
      have e : n * 128 ^ i = (n % 128) * 128 ^ i + (n / 128) * 128 ^ (i + 1) := by
        have := Nat.div_add_mod n 128
        rw [Nat.pow_succ, ← Nat.mul_assoc, Nat.mul_right_comm]
        rw [← Nat.add_mul]; congr 1; omega
      rw [ih (n / 128) (by omega) (i + 1) _ (by omega) (by omega) (by omega)]
      congr 2
      · have : 128 + n % 128 - 128 = n % 128 := by omega
        rw [this]; omega
      · omega

theorem num_digits (r : List UInt8) (n : Nat) (h : n < 2 ^ 64) : num? (digits n ++ r) 0 0 = some (n, (digits n).length) := by
  rw [num_digits_at r n 0 0 (by simpa using h) (by omega) (by omega)]; simp

/-- Bytes that are read are those that would be put. -/
theorem num_sound_at : ∀ (l : List UInt8) (i acc n k : Nat), num? l i acc = some (n, k) → ∃ m, n = acc + m * 128 ^ i ∧ i + (digits m).length = k ∧ l.take (digits m).length = digits m ∧ m * 128 ^ i < 2 ^ 64 ∧ (0 < i → 0 < m) := by
  intro l
  induction l with
  | nil => intro i acc n k h; simp [num?] at h
  | cons c l ih =>
    intro i acc n k h
    have hc := c.toNat_lt
    simp only [num?] at h
    by_cases h1 : 10 ≤ i
    · rw [if_pos h1] at h; cases h
    rw [if_neg h1] at h
    by_cases h2 : (0 < i ∧ c.toNat = 0) ∨ (i = 9 ∧ 1 < c.toNat)
    · rw [if_pos h2] at h; cases h
    rw [if_neg h2] at h
    by_cases h3 : c.toNat < 128
    · rw [if_pos h3] at h
      simp only [Option.some.injEq, Prod.mk.injEq] at h
      refine ⟨c.toNat, h.1.symm, by rw [digits_lt h3]; simpa using h.2, by rw [digits_lt h3]; simp, ?_, by omega⟩
      by_cases e : i = 9
      · subst e; have : c.toNat ≤ 1 := by omega
        calc c.toNat * 128 ^ 9 ≤ 1 * 128 ^ 9 := Nat.mul_le_mul_right _ this
          _ < 2 ^ 64 := by decide
      · calc c.toNat * 128 ^ i ≤ 127 * 128 ^ i := Nat.mul_le_mul_right _ (by omega)
          _ ≤ 127 * 128 ^ 8 := Nat.mul_le_mul_left _ (Nat.pow_le_pow_right (by decide) (by omega))
          _ < 2 ^ 64 := by decide
    · rw [if_neg h3] at h
      obtain ⟨m, e1, e2, e3, e4, e5⟩ := ih _ _ _ _ h
      have hm := e5 (by omega)
      have hd : digits (c.toNat - 128 + 128 * m) = c :: digits m := by
        rw [digits_ge (by omega)]
        have x1 : (c.toNat - 128 + 128 * m) % 128 = c.toNat - 128 := by omega
        have x2 : (c.toNat - 128 + 128 * m) / 128 = m := by omega
        rw [x1, x2]
        have x3 : UInt8.ofNat (128 + (c.toNat - 128)) = c := UInt8.toNat_inj.1 (by rw [u8 (by omega)]; omega)
        rw [x3]
      refine ⟨c.toNat - 128 + 128 * m, ?_, by rw [hd]; simp; omega, by rw [hd]; simp [e3], ?_, by omega⟩
      · rw [e1, Nat.pow_succ, Nat.add_mul]
        have : m * (128 ^ i * 128) = 128 * m * 128 ^ i := by rw [Nat.mul_comm (128 ^ i) 128, ← Nat.mul_assoc, Nat.mul_comm m 128]
        omega
      · rw [Nat.pow_succ] at e4
        -- (c - 128) * 128^i + 128*m*128^i : the low digit is below 128^(i+1), and 2^64 is a multiple of it or i = 8
        have q : m * (128 ^ i * 128) = 128 * m * 128 ^ i := by rw [Nat.mul_comm (128 ^ i) 128, ← Nat.mul_assoc, Nat.mul_comm m 128]
        rw [Nat.add_mul, ← q]
        have hi : i ≤ 8 := by
          rcases Nat.lt_or_ge i 9 with h' | h'
          · omega
          · exfalso
            have e9 : i = 9 := by omega
            rw [e9] at e4
            have : 1 * (128 ^ 9 * 128) ≤ m * (128 ^ 9 * 128) := Nat.mul_le_mul_right _ hm
            have e : (1 * (128 ^ 9 * 128) : Nat) = 1180591620717411303424 := by decide
            have e' : (2 ^ 64 : Nat) = 18446744073709551616 := by decide
            rw [e'] at e4; rw [e] at this; omega
        have hlow : (c.toNat - 128) * 128 ^ i ≤ 127 * 128 ^ i := Nat.mul_le_mul_right _ (by omega)
        -- m * 128^(i+1) < 2^64 = M * 128^(i+1) for i+1 ≤ 9 (2^64 = 2 * 128^9)
        have hM : (2 ^ 64 : Nat) = 2 * 128 ^ (8 - i) * (128 ^ i * 128) := by
          have : (128 : Nat) ^ (8 - i) * (128 ^ i * 128) = 128 ^ 9 := by
            rw [← Nat.pow_succ, ← Nat.pow_add]; congr 1; try omega
          rw [Nat.mul_assoc, this]
        rw [hM] at e4 ⊢
        have hpos : 0 < 128 ^ i * 128 := Nat.mul_pos (Nat.pow_pos (by decide)) (by decide)
        have hlt := Nat.lt_of_mul_lt_mul_right e4
        have : (m + 1) * (128 ^ i * 128) ≤ 2 * 128 ^ (8 - i) * (128 ^ i * 128) := Nat.mul_le_mul_right _ hlt
        rw [Nat.add_mul] at this
        have : 127 * 128 ^ i < 1 * (128 ^ i * 128) := by
          have : 0 < 128 ^ i := Nat.pow_pos (by decide)
          omega
        omega

theorem num_sound {l : List UInt8} {n k : Nat} (h : num? l 0 0 = some (n, k)) : (digits n).length = k ∧ l.take k = digits n ∧ n < 2 ^ 64 := by
  obtain ⟨m, e1, e2, e3, e4, _⟩ := num_sound_at l 0 0 n k h
  simp at e1 e4
  subst e1
  have : (digits n).length = k := by omega
  exact ⟨this, by rw [← this]; exact e3, e4⟩
end Wire
