/- Ranges in order: plain, no program in sight. -/
import Derived.Test.YtocfeeecgpklnaaK1
import Derived.Sort.Walk0
namespace Go.Proofs.Ytocfeeecgpklnaa
set_option linter.unusedVariables false
set_option linter.unusedSimpArgs false

/-- One text comes ahead of another. -/
def ltS (a b : ByteArray) : Bool := Op.bytesLess a.toList b.toList
def SL (a b : ByteArray) : Prop := a.data.toList < b.data.toList
theorem ltS_iff (a b : ByteArray) : ltS a b = true ↔ SL a b := by
  unfold ltS SL
  rw [bytesLess_eq, Lib.toList_data, Lib.toList_data]
  simp
theorem ba_ext {a b : ByteArray} (h : a.data.toList = b.data.toList) : a = b := by
  cases a; cases b
  congr 1
  exact Array.toList_inj.1 h
theorem SL_irrefl (a : ByteArray) : ¬ SL a a := List.lt_irrefl _
theorem SL_trans {a b c : ByteArray} (h : SL a b) (k : SL b c) : SL a c := List.lt_trans h k
theorem SL_tri (a b : ByteArray) : SL a b ∨ a = b ∨ SL b a := by
  by_cases h : SL a b
  · exact Or.inl h
  · by_cases k : SL b a
    · exact Or.inr (Or.inr k)
    · exact Or.inr (Or.inl (ba_ext (List.le_antisymm k h)))
theorem SL_asymm {a b : ByteArray} (h : SL a b) : ¬ SL b a := fun k => SL_irrefl _ (SL_trans h k)

structure Rg where
  lo : ByteArray
  hi : ByteArray
  ts : Nat

def mt : ByteArray := ⟨#[]⟩
/-- An end comes ahead of another one. -/
def EL (a b : ByteArray) : Prop := a ≠ mt ∧ (b = mt ∨ SL a b)
theorem EL_irrefl (a : ByteArray) : ¬ EL a a := by
  rintro ⟨h, k | k⟩
  · exact h k
  · exact SL_irrefl _ k
theorem EL_trans {a b c : ByteArray} (h : EL a b) (k : EL b c) : EL a c := by
  obtain ⟨h1, h2⟩ := h
  obtain ⟨k1, k2⟩ := k
  refine ⟨h1, ?_⟩
  rcases k2 with k2 | k2
  · exact Or.inl k2
  · rcases h2 with h2 | h2
    · exact absurd h2 k1
    · exact Or.inr (SL_trans h2 k2)
theorem EL_tri (a b : ByteArray) : EL a b ∨ a = b ∨ EL b a := by
  by_cases ha : a = mt
  · by_cases hb : b = mt
    · exact Or.inr (Or.inl (ha.trans hb.symm))
    · exact Or.inr (Or.inr ⟨hb, Or.inl ha⟩)
  · by_cases hb : b = mt
    · exact Or.inl ⟨ha, Or.inl hb⟩
    · rcases SL_tri a b with h | h | h
      · exact Or.inl ⟨ha, Or.inr h⟩
      · exact Or.inr (Or.inl h)
      · exact Or.inr (Or.inr ⟨hb, Or.inr h⟩)
/-- A range comes ahead of another one. -/
def RL (x y : Rg) : Prop := SL x.lo y.lo ∨ x.lo = y.lo ∧ EL x.hi y.hi
def Al (x y : Rg) : Prop := x.lo = y.lo ∧ x.hi = y.hi
theorem RL_al {x y : Rg} (h : RL x y) : ¬ Al x y := by
  rintro ⟨a, b⟩
  rcases h with h | h
  · rw [a] at h; exact SL_irrefl _ h
  · rw [b] at h; exact EL_irrefl _ h.2
theorem RL_trans {x y z : Rg} (h : RL x y) (k : RL y z) : RL x z := by
  rcases h with h | ⟨h1, h2⟩
  · rcases k with k | ⟨k1, k2⟩
    · exact Or.inl (SL_trans h k)
    · exact Or.inl (k1 ▸ h)
  · rcases k with k | ⟨k1, k2⟩
    · exact Or.inl (h1 ▸ k)
    · exact Or.inr ⟨h1.trans k1, EL_trans h2 k2⟩
theorem RL_tri (x y : Rg) : RL x y ∨ Al x y ∨ RL y x := by
  rcases SL_tri x.lo y.lo with h | h | h
  · exact Or.inl (Or.inl h)
  · rcases EL_tri x.hi y.hi with k | k | k
    · exact Or.inl (Or.inr ⟨h, k⟩)
    · exact Or.inr (Or.inl ⟨h, k⟩)
    · exact Or.inr (Or.inr (Or.inr ⟨h.symm, k⟩))
  · exact Or.inr (Or.inr (Or.inl h))
theorem RL_congr {x y z : Rg} (h : Al y z) : RL x y ↔ RL x z := by
  unfold RL; rw [h.1, h.2]
theorem RL_congr' {x y z : Rg} (h : Al x y) : RL x z ↔ RL y z := by
  unfold RL; rw [h.1, h.2]

/-- They rise. -/
abbrev Srt (l : List Rg) : Prop := l.Pairwise RL
/-- i is the place of r. -/
def IsLb (l : List Rg) (r : Rg) (i : Nat) : Prop := i ≤ l.length ∧ (∀ j x, j < i → l[j]? = some x → RL x r) ∧ (∀ j x, i ≤ j → l[j]? = some x → ¬ RL x r)

open Classical in
/-- A range is put in its place, or the one that is there is given a higher time. -/
noncomputable def insR (r : Rg) : List Rg → List Rg
  | [] => [r]
  | x :: l => if RL x r then x :: insR r l else if Al x r then { x with ts := max x.ts r.ts } :: l else r :: x :: l

theorem insR_set : ∀ {l : List Rg} {r : Rg} {i : Nat} {x : Rg}, IsLb l r i → l[i]? = some x → Al x r → insR r l = l.set i { x with ts := max x.ts r.ts }
  | [], r, i, x, _, hx, _ => by simp at hx
  | y :: l, r, 0, x, h, hx, ha => by
    simp at hx; subst hx
    have := h.2.2 0 y (Nat.le_refl _) (by simp)
    rw [insR, if_neg this, if_pos ha]; rfl
  | y :: l, r, i + 1, x, h, hx, ha => by
    have h0 := h.2.1 0 y (by omega) (by simp)
    rw [insR, if_pos h0, List.set_cons_succ, insR_set (l := l) (i := i) ⟨by have := h.1; simp at this; omega, fun j z hj hz => h.2.1 (j + 1) z (by omega) (by simpa using hz), fun j z hj hz => h.2.2 (j + 1) z (by omega) (by simpa using hz)⟩ (by simpa using hx) ha]
theorem insR_put : ∀ {l : List Rg} {r : Rg} {i : Nat}, IsLb l r i → (∀ x, l[i]? = some x → ¬ Al x r) → insR r l = l.take i ++ r :: l.drop i
  | [], r, i, h, _ => by
    have := h.1
    simp [insR]
  | y :: l, r, 0, h, ha => by
    have := h.2.2 0 y (Nat.le_refl _) (by simp)
    rw [insR, if_neg this, if_neg (ha y (by simp))]; simp
  | y :: l, r, i + 1, h, ha => by
    have h0 := h.2.1 0 y (by omega) (by simp)
    rw [insR, if_pos h0, insR_put (l := l) (i := i) ⟨by have := h.1; simp at this; omega, fun j z hj hz => h.2.1 (j + 1) z (by omega) (by simpa using hz), fun j z hj hz => h.2.2 (j + 1) z (by omega) (by simpa using hz)⟩ (fun x hx => ha x (by simpa using hx))]
    simp
theorem insR_mem {r y : Rg} : ∀ {l : List Rg}, y ∈ insR r l → y ∈ l ∨ Al y r
  | [], h => by simp [insR] at h; subst h; exact Or.inr ⟨rfl, rfl⟩
  | x :: l, h => by
    rw [insR] at h
    split at h
    · rcases List.mem_cons.1 h with rfl | h
      · exact Or.inl (by simp)
      · rcases insR_mem h with h | h
        · exact Or.inl (by simp [h])
        · exact Or.inr h
    · split at h
      · rename_i ha
        rcases List.mem_cons.1 h with rfl | h
        · exact Or.inr ha
        · exact Or.inl (by simp [h])
      · rcases List.mem_cons.1 h with rfl | h
        · exact Or.inr ⟨rfl, rfl⟩
        · exact Or.inl h
theorem insR_srt {r : Rg} : ∀ {l : List Rg}, Srt l → Srt (insR r l)
  | [], _ => by simp [insR, Srt]
  | x :: l, h => by
    have h' := List.pairwise_cons.1 h
    rw [insR]
    split
    · rename_i hx
      refine List.pairwise_cons.2 ⟨fun y hy => ?_, insR_srt h'.2⟩
      rcases insR_mem hy with hy | hy
      · exact h'.1 y hy
      · exact (RL_congr hy).2 hx
    · rename_i hx
      split
      · refine List.pairwise_cons.2 ⟨fun y hy => ?_, h'.2⟩
        exact (RL_congr' (x := { x with ts := max x.ts r.ts }) (y := x) ⟨rfl, rfl⟩).2 (h'.1 y hy)
      · rename_i ha
        have hrx : RL r x := by
          rcases RL_tri x r with h1 | h1 | h1
          · exact absurd h1 hx
          · exact absurd h1 ha
          · exact h1
        refine List.pairwise_cons.2 ⟨fun y hy => ?_, h⟩
        rcases List.mem_cons.1 hy with rfl | hy
        · exact hrx
        · exact RL_trans hrx (h'.1 y hy)
theorem insR_len (r : Rg) : ∀ (l : List Rg), l.length ≤ (insR r l).length ∧ (insR r l).length ≤ l.length + 1
  | [] => by simp [insR]
  | x :: l => by
    have ih := insR_len r l
    rw [insR]
    split
    · simp; omega
    · split <;> simp
theorem srt_lb {l : List Rg} (h : Srt l) {r : Rg} {j k : Nat} {x y : Rg} (hjk : j ≤ k) (hx : l[j]? = some x) (hy : l[k]? = some y) (hr : RL y r) : RL x r := by
  rcases Nat.lt_or_ge j k with hlt | hge
  · obtain ⟨hj, rfl⟩ := List.getElem?_eq_some_iff.1 hx
    obtain ⟨hk, rfl⟩ := List.getElem?_eq_some_iff.1 hy
    exact RL_trans (List.pairwise_iff_getElem.1 h j k hj hk hlt) hr
  · obtain rfl : j = k := by omega
    rw [hx] at hy; cases hy; exact hr

open Classical in
/-- Two into one. -/
noncomputable def mrg (a b : Rg) : Rg := ⟨a.lo, if EL a.hi b.hi then b.hi else a.hi, max a.ts b.ts⟩
def okR (lo hi : ByteArray) (ts : Nat) : Prop := (hi = mt ∨ SL lo hi) ∧ ts ≠ 0
open Classical in
/-- What a reading makes of ranges. -/
noncomputable def readR (most : Int) (l : List Rg) (lo hi : ByteArray) (ts : Nat) : List Rg :=
  if okR lo hi ts then
    if ((insR ⟨lo, hi, ts⟩ l).length : Int) ≤ most then insR ⟨lo, hi, ts⟩ l
    else match insR ⟨lo, hi, ts⟩ l with
      | a :: b :: m => insR (mrg a b) m
      | m => m
  else l
theorem readR_srt {most : Int} {l : List Rg} {lo hi : ByteArray} {ts : Nat} (h : Srt l) : Srt (readR most l lo hi ts) := by
  unfold readR
  split
  · have hi := insR_srt (r := ⟨lo, hi, ts⟩) h
    split
    · exact hi
    · split
      · rename_i a b m e
        rw [e] at hi
        exact insR_srt (List.pairwise_cons.1 (List.pairwise_cons.1 hi).2).2
      · exact hi
  · exact h
theorem readR_len {most : Int} {l : List Rg} {lo hi : ByteArray} {ts : Nat} : (readR most l lo hi ts).length ≤ l.length + 1 := by
  unfold readR
  have h1 := (insR_len ⟨lo, hi, ts⟩ l).2
  split
  · split
    · exact h1
    · split
      · rename_i a b m e
        rw [e] at h1
        have := (insR_len (mrg a b) m).2
        simp at h1; omega
      · exact h1
  · omega

def hasR (x : Rg) (k : ByteArray) : Prop := ¬ SL k x.lo ∧ (x.hi = mt ∨ SL k x.hi)
open Classical in
noncomputable def maxR (k : ByteArray) : List Rg → Nat
  | [] => 0
  | x :: l => if hasR x k then max x.ts (maxR k l) else maxR k l
open Classical in
theorem maxR_snoc (k : ByteArray) (x : Rg) : ∀ l, maxR k (l ++ [x]) = if hasR x k then max (maxR k l) x.ts else maxR k l
  | [] => by
    simp only [List.nil_append, maxR]
    split <;> simp
  | y :: l => by
    have ih := maxR_snoc k x l
    simp only [List.cons_append, maxR, ih]
    by_cases h1 : hasR x k <;> by_cases h2 : hasR y k <;> simp [h1, h2] <;> omega
theorem maxR_le (k : ByteArray) (c : Nat) : ∀ l, maxR k l ≤ c ↔ ∀ x ∈ l, hasR x k → x.ts ≤ c
  | [] => by simp [maxR]
  | y :: l => by
    have ih := maxR_le k c l
    simp only [maxR, List.mem_cons, forall_eq_or_imp]
    split
    · rename_i h
      rw [Nat.max_le, ih]
      exact ⟨fun h' => ⟨fun _ => h'.1, h'.2⟩, fun h' => ⟨h'.1 h, h'.2⟩⟩
    · rename_i h
      rw [ih]
      exact ⟨fun h' => ⟨fun a => absurd a h, h'⟩, fun h' => h'.2⟩
end Go.Proofs.Ytocfeeecgpklnaa
