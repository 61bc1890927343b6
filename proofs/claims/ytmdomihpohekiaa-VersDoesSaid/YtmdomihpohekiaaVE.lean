/- Sorted lists: what is last, what Prune leaves. No program in sight. -/
import Derived.Test.YtmdomihpohekiaaVD
namespace Go.Proofs.Ytmdomihpohekiaa
set_option linter.unusedVariables false
set_option linter.unusedSimpArgs false
open Go.RowKit

theorem last_iff (q : Vr → Bool) (l : List Vr) (x : Vr) : lastB q l = some x ↔ ∃ i : Nat, l[i]? = some x ∧ q x = true ∧ ∀ (j : Nat) (y : Vr), i < j → l[j]? = some y → q y = false := by
  constructor
  · intro h
    unfold lastB at h
    rw [List.find?_eq_some_iff_getElem] at h
    obtain ⟨hq, i, hi, hx, hall⟩ := h
    simp only [List.length_reverse] at hi
    rw [List.getElem_reverse] at hx
    refine ⟨l.length - 1 - i, by rw [← hx]; exact List.getElem?_eq_getElem (by omega), hq, fun j y hj hy => ?_⟩
    obtain ⟨hjl, rfl⟩ := List.getElem?_eq_some_iff.1 hy
    have := hall (l.length - 1 - j) (by omega)
    rw [List.getElem_reverse] at this
    have e : l.length - 1 - (l.length - 1 - j) = j := by omega
    simp only [e] at this
    simpa using this
  · rintro ⟨i, hx, hq, hall⟩
    obtain ⟨hi, rfl⟩ := List.getElem?_eq_some_iff.1 hx
    unfold lastB
    rw [List.find?_eq_some_iff_getElem]
    refine ⟨hq, l.length - 1 - i, by simp; omega, ?_, fun j hj => ?_⟩
    · rw [List.getElem_reverse]; congr 1; omega
    · rw [List.getElem_reverse, hall (l.length - 1 - j) _ (by omega) (List.getElem?_eq_getElem (by omega))]
      rfl
theorem last_none_iff (q : Vr → Bool) (l : List Vr) : lastB q l = none ↔ ∀ (j : Nat) (y : Vr), l[j]? = some y → q y = false := by
  unfold lastB
  rw [List.find?_eq_none]
  constructor
  · intro h j y hy
    have := h y (by simp; exact List.mem_of_getElem? hy)
    simpa using this
  · intro h x hx
    obtain ⟨j, hj⟩ := List.getElem?_of_mem (List.mem_reverse.1 hx)
    rw [h j x hj]; simp
theorem may_lt {l : List Vr} (h : mayB l = true) : ∀ (d i : Nat) (x y : Vr), l[i]? = some x → l[i + d + 1]? = some y → x.ts < y.ts := by
  intro d
  induction d with
  | zero =>
    intro i x y hx hy
    have hl := (List.getElem?_eq_some_iff.1 hy).1
    have := (mayB_iff l).1 h i (by omega)
    rwa [tsA_at hx, tsA_at hy] at this
  | succ d ih =>
    intro i x y hx hy
    have hl := (List.getElem?_eq_some_iff.1 hy).1
    have hz : l[i + d + 1]? = some (l[i + d + 1]'(by omega)) := List.getElem?_eq_getElem (by omega)
    have h1 := ih i x _ hx hz
    have h2 := (mayB_iff l).1 h (i + d + 1) (by omega)
    rw [tsA_at hz, tsA_at (show l[i + d + 1 + 1]? = some y from hy)] at h2
    omega
theorem may_lt' {l : List Vr} (h : mayB l = true) {i j : Nat} {x y : Vr} (hij : i < j) (hx : l[i]? = some x) (hy : l[j]? = some y) : x.ts < y.ts :=
  may_lt h (j - i - 1) i x y hx (by rw [show i + (j - i - 1) + 1 = j by omega]; exact hy)
theorem may_drop {l : List Vr} (h : mayB l = true) (i : Nat) : mayB (l.drop i) = true := by
  rw [mayB_iff] at h ⊢
  intro j hj
  have := h (i + j) (by simp at hj; omega)
  simpa [tsA, List.getD, Nat.add_assoc] using this
/-- What is no older than the i-th. -/
theorem keep_drop {l : List Vr} (h : mayB l = true) (i : Nat) (s : Vr) (hs : l[i]? = some s) : l.filter (fun x => !decide (x.ts < s.ts)) = l.drop i := by
  have hi := (List.getElem?_eq_some_iff.1 hs).1
  have e : l = l.take i ++ l.drop i := (List.take_append_drop i l).symm
  conv => lhs; rw [e]
  rw [List.filter_append]
  have h1 : (l.take i).filter (fun x => !decide (x.ts < s.ts)) = [] := by
    rw [List.filter_eq_nil_iff]
    intro x hx
    obtain ⟨j, hj⟩ := List.getElem?_of_mem hx
    have hjl := (List.getElem?_eq_some_iff.1 hj).1
    simp only [List.length_take] at hjl
    rw [List.getElem?_take, if_pos (by omega)] at hj
    have := may_lt' h (show j < i by omega) hj hs
    simp [this]
  have h2 : (l.drop i).filter (fun x => !decide (x.ts < s.ts)) = l.drop i := by
    rw [List.filter_eq_self]
    intro x hx
    obtain ⟨j, hj⟩ := List.getElem?_of_mem hx
    rw [List.getElem?_drop] at hj
    rcases Nat.eq_zero_or_pos j with rfl | hp
    · simp only [Nat.add_zero] at hj; rw [hs] at hj; cases hj; simp
    · have := may_lt' h (show i < i + j by omega) hs hj
      simp; omega
  rw [h1, h2, List.nil_append]

theorem prune_cases (t : Nat) (l : List Vr) (h : mayB l = true) : (lastB (logP t) l = none ∧ pruneB t l = l) ∨ ∃ (i : Nat) (s : Vr), l[i]? = some s ∧ logP t s = true ∧ (∀ (j : Nat) (y : Vr), i < j → l[j]? = some y → logP t y = false) ∧ pruneB t l = l.drop i := by
  cases ho : lastB (logP t) l with
  | none =>
    left
    refine ⟨rfl, ?_⟩
    simp [pruneB, withoutB, seenB, h, ho, keepB, prP]
  | some s =>
    right
    obtain ⟨i, h1, h2, h3⟩ := (last_iff _ _ _).1 ho
    refine ⟨i, s, h1, h2, h3, ?_⟩
    rw [← keep_drop h i s h1]
    simp [pruneB, withoutB, seenB, h, ho, keepB, prP]
theorem prune_end (t : Nat) (l : List Vr) (h : mayB l = true) : (pruneB t l).length ≤ l.length ∧ pruneB t l = l.drop (l.length - (pruneB t l).length) := by
  rcases prune_cases t l h with ⟨_, e⟩ | ⟨i, s, h1, _, _, e⟩
  · rw [e]; simp
  · have := (List.getElem?_eq_some_iff.1 h1).1
    rw [e]
    refine ⟨by simp, ?_⟩
    congr 1
    simp; omega
theorem prune_may (t : Nat) (l : List Vr) (h : mayB l = true) : mayB (pruneB t l) = true := by
  rcases prune_cases t l h with ⟨_, e⟩ | ⟨i, s, h1, _, _, e⟩
  · rw [e]; exact h
  · rw [e]; exact may_drop h i
theorem prune_prune (t : Nat) (l : List Vr) (h : mayB l = true) : pruneB t (pruneB t l) = pruneB t l := by
  rcases prune_cases t l h with ⟨_, e⟩ | ⟨i, s, h1, h2, h3, e⟩
  · rw [e, e]
  · rw [e]
    have hs : (l.drop i)[0]? = some s := by simpa using h1
    rcases prune_cases t (l.drop i) (may_drop h i) with ⟨_, e2⟩ | ⟨i2, s2, k1, k2, k3, e2⟩
    · exact e2
    · rw [e2]
      have : i2 = 0 := by
        rcases Nat.eq_zero_or_pos i2 with h0 | hp
        · exact h0
        · rw [List.getElem?_drop] at k1
          rw [h3 (i + i2) s2 (by omega) k1] at k2
          cases k2
      rw [this]; rfl
theorem prune_sees (o t : Nat) (l : List Vr) (h : mayB l = true) (hot : o ≤ t) (a : Vr) (ha : seenB (visP t) l = some a) (hl : a.ln ≠ 0) : seenB (visP t) (pruneB o l) = some a := by
  have hm := prune_may o l h
  unfold seenB at ha ⊢
  rw [if_pos h] at ha
  rw [if_pos hm]
  rcases prune_cases o l h with ⟨_, e⟩ | ⟨i, s, h1, h2, h3, e⟩
  · rw [e]; exact ha
  · rw [e]
    obtain ⟨j, k1, k2, k3⟩ := (last_iff _ _ _).1 ha
    have hij : i ≤ j := by
      rcases Nat.lt_or_ge j i with hji | hji
      · have := k3 i s hji h1
        simp [visP, logP] at this h2
        omega
      · exact hji
    refine (last_iff _ _ _).2 ⟨j - i, by rw [List.getElem?_drop, show i + (j - i) = j by omega]; exact k1, k2, fun j2 y hj2 hy => ?_⟩
    rw [List.getElem?_drop] at hy
    exact k3 (i + j2) y (by omega) hy

/-! rising -/
def tA (l : List Vr) : Nat → Nat
  | 0 => 0
  | k + 1 => tA l k + 1 + tsA l k % 9
def risX (l : List Vr) (i : Nat) : Vr := { l.getD i v0 with ts := tA l (i + 1) }
def risB (l : List Vr) : List Vr := (List.range (min l.length 40)).map (risX l)
theorem tA_le (l : List Vr) (k : Nat) : tA l k ≤ 9 * k := by
  induction k with
  | zero => simp [tA]
  | succ k ih => simp only [tA]; omega
theorem risB_len (l : List Vr) : (risB l).length = min l.length 40 := by simp [risB]
theorem risB_at (l : List Vr) (i : Nat) (h : i < (risB l).length) : (risB l)[i]? = some (risX l i) := by
  rw [risB_len] at h
  simp [risB, h]
theorem risB_may (l : List Vr) : mayB (risB l) = true := by
  rw [mayB_iff]
  intro i hi
  rw [tsA_at (risB_at l i (by omega)), tsA_at (risB_at l (i + 1) hi)]
  simp only [risX, tA]
  omega

end Go.Proofs.Ytmdomihpohekiaa
