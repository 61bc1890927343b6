/- Ranges read in another order: plain. -/
import Derived.Test.YtkacjggjmdndaaaSPA
namespace Go.Proofs.Ytkacjggjmdndaaa
set_option linter.unusedVariables false
set_option linter.unusedSimpArgs false

theorem hasR_congr {x y : Rg} (h : Al x y) (k : ByteArray) : hasR x k ↔ hasR y k := by unfold hasR; rw [h.1, h.2]
theorem maxR_insR (k : ByteArray) (c : Nat) (r : Rg) : ∀ l, maxR k (insR r l) ≤ c ↔ maxR k l ≤ c ∧ (hasR r k → r.ts ≤ c)
  | [] => by simp [insR, maxR_le]
  | x :: l => by
    have ih := maxR_insR k c r l
    rw [maxR_le] at ih
    rw [maxR_le, maxR_le]
    rw [maxR_le] at ih
    by_cases h1 : RL x r
    · rw [insR, if_pos h1]
      simp only [List.mem_cons, forall_eq_or_imp, ih]
      exact ⟨fun h => ⟨⟨h.1, h.2.1⟩, h.2.2⟩, fun h => ⟨h.1.1, h.1.2, h.2⟩⟩
    · by_cases h2 : Al x r
      · rw [insR, if_neg h1, if_pos h2]
        simp only [List.mem_cons, forall_eq_or_imp]
        have hc : hasR { x with ts := max x.ts r.ts } k ↔ hasR x k := hasR_congr ⟨rfl, rfl⟩ k
        have hc2 := hasR_congr h2 k
        rw [hc]
        constructor
        · rintro ⟨h3, h4⟩
          exact ⟨⟨fun h => by have := h3 h; omega, h4⟩, fun h => by have := h3 (hc2.2 h); omega⟩
        · rintro ⟨⟨h3, h4⟩, h5⟩
          exact ⟨fun h => by have := h3 h; have := h5 (hc2.1 h); omega, h4⟩
      · rw [insR, if_neg h1, if_neg h2]
        simp only [List.mem_cons, forall_eq_or_imp]
        exact ⟨fun h => ⟨h.2, h.1⟩, fun h => ⟨h.2, h.1⟩⟩
theorem insR_old {r y : Rg} : ∀ {l : List Rg}, y ∈ l → ∃ x ∈ insR r l, Al x y
  | x :: l, h => by
    rw [insR]
    rcases List.mem_cons.1 h with rfl | h
    · split
      · exact ⟨y, by simp, rfl, rfl⟩
      · split
        · exact ⟨_, List.mem_cons_self .., rfl, rfl⟩
        · exact ⟨y, by simp, rfl, rfl⟩
    · split
      · obtain ⟨z, hz, ha⟩ := insR_old (r := r) h
        exact ⟨z, by simp [hz], ha⟩
      · split
        · exact ⟨y, by simp [h], rfl, rfl⟩
        · exact ⟨y, by simp [h], rfl, rfl⟩
theorem insR_new {r : Rg} : ∀ (l : List Rg), ∃ x ∈ insR r l, Al x r
  | [] => ⟨r, by simp [insR], rfl, rfl⟩
  | x :: l => by
    rw [insR]
    split
    · obtain ⟨z, hz, ha⟩ := insR_new (r := r) l
      exact ⟨z, by simp [hz], ha⟩
    · split
      · rename_i ha
        exact ⟨_, List.mem_cons_self .., ha⟩
      · exact ⟨r, by simp, rfl, rfl⟩

def okS (s : Rg) : Prop := okR s.lo s.hi s.ts
/-- The list says what was read. -/
def Told (l S : List Rg) : Prop :=
  (∀ k c, maxR k l ≤ c ↔ ∀ s ∈ S, okS s → hasR s k → s.ts ≤ c) ∧ (∀ x ∈ l, ∃ s ∈ S, okS s ∧ Al x s) ∧ ∀ s ∈ S, okS s → ∃ x ∈ l, Al x s
theorem Told.nil : Told [] [] := ⟨fun k c => by simp [maxR], by simp, by simp⟩
theorem Told.step {l S : List Rg} (h : Told l S) (s : Rg) {most : Int} (hm : (l.length : Int) + 1 ≤ most) : Told (readR most l s.lo s.hi s.ts) (S ++ [s]) := by
  obtain ⟨h1, h2, h3⟩ := h
  have hl := (insR_len ⟨s.lo, s.hi, s.ts⟩ l).2
  by_cases hy : okR s.lo s.hi s.ts
  · have e : readR most l s.lo s.hi s.ts = insR s l := by unfold readR; rw [if_pos hy, if_pos (by omega)]
    rw [e]
    refine ⟨fun k c => ?_, fun x hx => ?_, fun t ht hto => ?_⟩
    · rw [maxR_insR, h1]
      simp only [List.mem_append, List.mem_singleton]
      constructor
      · rintro ⟨a, b⟩ t (ht | rfl) ho hk
        · exact a t ht ho hk
        · exact b hk
      · intro a
        exact ⟨fun t ht => a t (Or.inl ht), a s (Or.inr rfl) hy⟩
    · rcases insR_mem hx with hx | hx
      · obtain ⟨t, ht, ho, ha⟩ := h2 x hx
        exact ⟨t, by simp [ht], ho, ha⟩
      · exact ⟨s, by simp, hy, hx⟩
    · rcases List.mem_append.1 ht with ht | ht
      · obtain ⟨x, hx, ha⟩ := h3 t ht hto
        obtain ⟨z, hz, hb⟩ := insR_old (r := s) hx
        exact ⟨z, hz, hb.1.trans ha.1, hb.2.trans ha.2⟩
      · simp at ht; subst ht; exact insR_new l
  · have e : readR most l s.lo s.hi s.ts = l := by unfold readR; rw [if_neg hy]
    rw [e]
    refine ⟨fun k c => ?_, fun x hx => ?_, fun t ht hto => ?_⟩
    · rw [h1]
      simp only [List.mem_append, List.mem_singleton]
      constructor
      · rintro a t (ht | rfl) ho hk
        · exact a t ht ho hk
        · exact absurd ho hy
      · intro a t ht
        exact a t (Or.inl ht)
    · obtain ⟨t, ht, ho, ha⟩ := h2 x hx
      exact ⟨t, by simp [ht], ho, ha⟩
    · rcases List.mem_append.1 ht with ht | ht
      · exact h3 t ht hto
      · simp at ht; subst ht; exact absurd hto hy

theorem len_of_al : ∀ {l m : List Rg}, Srt l → (∀ x ∈ l, ∃ z ∈ m, Al x z) → l.length ≤ m.length
  | [], m, _, _ => by simp
  | x :: l, m, hs, h => by
    obtain ⟨z, hz, ha⟩ := h x (by simp)
    obtain ⟨s, t, rfl⟩ := List.append_of_mem hz
    have hs' := List.pairwise_cons.1 hs
    have ih := len_of_al (l := l) (m := s ++ t) hs'.2 (fun y hy => by
      obtain ⟨z', hz', hb⟩ := h y (by simp [hy])
      refine ⟨z', ?_, hb⟩
      have hne : z' ≠ z := fun e => RL_al (hs'.1 y hy) ⟨ha.1.trans (by rw [hb.1, e]), ha.2.trans (by rw [hb.2, e])⟩
      simp at hz' ⊢
      rcases hz' with h | h | h
      · exact Or.inl h
      · exact absurd h hne
      · exact Or.inr h)
    simp at ih ⊢
    omega

/-- Half the time. -/
def halfS (s : Rg) : Rg := { s with ts := s.ts / 2 }
theorem half_ok {s : Rg} (h : okS (halfS s)) : okS s := by
  obtain ⟨h1, h2⟩ := h
  refine ⟨h1, fun e => h2 ?_⟩
  show s.ts / 2 = 0
  rw [e]
theorem turned_max {n : Nat} {X Y : Nat → Rg} {la lb SA SB : List Rg} (ha : Told la SA) (hb : Told lb SB) (hA : ∀ s, s ∈ SA ↔ ∃ j, j < n ∧ s = X j) (hB1 : ∀ s ∈ SB, ∃ j, j < n ∧ (s = Y j ∨ s = halfS (Y j))) (hB2 : ∀ j, j < n → Y j ∈ SB)
    (hXY : ∀ j, j < n → ∃ i, i < n ∧ X j = Y i) (hYX : ∀ j, j < n → ∃ i, i < n ∧ Y j = X i) (k : ByteArray) : maxR k la = maxR k lb := by
  have h : ∀ c, maxR k la ≤ c ↔ maxR k lb ≤ c := fun c => by
    rw [ha.1, hb.1]
    constructor
    · intro h s hs ho hk
      obtain ⟨j, hj, e⟩ := hB1 s hs
      obtain ⟨i, hi, e2⟩ := hYX j hj
      have h2 := h (X i) ((hA _).2 ⟨i, hi, rfl⟩)
      rcases e with rfl | rfl
      · rw [e2] at ho hk ⊢; exact h2 ho hk
      · have h3 := h2 (by rw [← e2]; exact half_ok ho) (by rw [← e2]; exact hk)
        show (Y j).ts / 2 ≤ c
        rw [e2]; omega
    · intro h s hs ho hk
      obtain ⟨j, hj, rfl⟩ := (hA s).1 hs
      obtain ⟨i, hi, e⟩ := hXY j hj
      have := h (Y i) (hB2 i hi) (by rw [← e]; exact ho) (by rw [← e]; exact hk)
      rw [e]; exact this
  have h1 := (h (maxR k lb)).2 (Nat.le_refl _)
  have h2 := (h (maxR k la)).1 (Nat.le_refl _)
  omega
theorem turned_len {n : Nat} {X Y : Nat → Rg} {la lb SA SB : List Rg} (hs : Srt la) (ha : Told la SA) (hb : Told lb SB) (hA : ∀ s, s ∈ SA ↔ ∃ j, j < n ∧ s = X j) (hB2 : ∀ j, j < n → Y j ∈ SB)
    (hXY : ∀ j, j < n → ∃ i, i < n ∧ X j = Y i) : la.length ≤ lb.length := by
  refine len_of_al hs fun x hx => ?_
  obtain ⟨s, hs, ho, h1⟩ := ha.2.1 x hx
  obtain ⟨j, hj, rfl⟩ := (hA s).1 hs
  obtain ⟨i, hi, e⟩ := hXY j hj
  obtain ⟨z, hz, h2⟩ := hb.2.2 (Y i) (hB2 i hi) (by rw [← e]; exact ho)
  exact ⟨z, hz, h1.1.trans (by rw [e]; exact h2.1.symm), h1.2.trans (by rw [e]; exact h2.2.symm)⟩
/-- The turning is onto. -/
theorem turn_onto {n t j : Nat} (hj : j < n) : ∃ i, i < n ∧ n - 1 - (i + t) % n = j := by
  have hn : 0 < n := by omega
  have ht := Nat.mod_lt t hn
  refine ⟨(n - 1 - j + (n - t % n)) % n, Nat.mod_lt _ hn, ?_⟩
  have e : ((n - 1 - j + (n - t % n)) % n + t) % n = n - 1 - j := by
    rw [Nat.mod_add_mod, ← Nat.add_mod_mod]
    rw [show n - 1 - j + (n - t % n) + t % n = n - 1 - j + n by omega, Nat.add_mod_right]
    exact Nat.mod_eq_of_lt (by omega)
  rw [e]; omega
end Go.Proofs.Ytkacjggjmdndaaa
