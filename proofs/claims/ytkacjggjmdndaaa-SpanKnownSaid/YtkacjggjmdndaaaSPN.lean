/- short; works; the closed lists. -/
import Derived.Test.YtkacjggjmdndaaaSPM
namespace Go.Proofs.Ytkacjggjmdndaaa
set_option linter.unusedVariables false
set_option linter.unusedSimpArgs false
set_option linter.unusedSectionVars false
open Go.RowKit

/-- 20 bytes at most. -/
def shortB (s : ByteArray) : ByteArray := s.extract 0 (min 20 s.size)
theorem shortB_size (s : ByteArray) : (shortB s).size ≤ 20 := by unfold shortB; rw [ByteArray.size_extract]; omega
set_option maxRecDepth 100000 in
theorem short_c (s : ByteArray) (w : World) (hs : s.size ≤ 9223372036854775807) : Calls Try.prog 9 #[.string s] w fun e w' => e = .returned (.string (shortB s)) ∧ w = w' := by
  go_enter Try.func9, Try.ntmps9
  go_wp2
  go_ret
  refine ⟨?_, rfl⟩
  show Ending.returned (.string (s.extract 0 (min (s.size : Int) 20).toNat)) = _
  unfold shortB
  rw [show (min (s.size : Int) 20).toNat = min 20 s.size by omega]

instance (a b : ByteArray) : Decidable (SL a b) := inferInstanceAs (Decidable (a.data.toList < b.data.toList))
instance (a b : ByteArray) : Decidable (EL a b) := inferInstanceAs (Decidable (a ≠ mt ∧ (b = mt ∨ SL a b)))
instance (x y : Rg) : Decidable (RL x y) := inferInstanceAs (Decidable (SL x.lo y.lo ∨ x.lo = y.lo ∧ EL x.hi y.hi))
instance (x y : Rg) : Decidable (Al x y) := inferInstanceAs (Decidable (x.lo = y.lo ∧ x.hi = y.hi))
instance (lo hi : ByteArray) (ts : Nat) : Decidable (okR lo hi ts) := inferInstanceAs (Decidable ((hi = mt ∨ SL lo hi) ∧ ts ≠ 0))
instance (x : Rg) (k : ByteArray) : Decidable (hasR x k) := inferInstanceAs (Decidable (¬ SL k x.lo ∧ (x.hi = mt ∨ SL k x.hi)))
instance : DecidableEq Rg := fun a b => decidable_of_iff (a.lo = b.lo ∧ a.hi = b.hi ∧ a.ts = b.ts) (by cases a; cases b; simp)

def insD (r : Rg) : List Rg → List Rg
  | [] => [r]
  | x :: l => if RL x r then x :: insD r l else if Al x r then { x with ts := max x.ts r.ts } :: l else r :: x :: l
theorem insR_eq (r : Rg) : ∀ l, insR r l = insD r l
  | [] => rfl
  | x :: l => by
    have ih := insR_eq r l
    by_cases h1 : RL x r
    · rw [insR, insD, if_pos h1, if_pos h1, ih]
    · by_cases h2 : Al x r
      · rw [insR, insD, if_neg h1, if_neg h1, if_pos h2, if_pos h2]
      · rw [insR, insD, if_neg h1, if_neg h1, if_neg h2, if_neg h2]
def mrgD (a b : Rg) : Rg := ⟨a.lo, if EL a.hi b.hi then b.hi else a.hi, max a.ts b.ts⟩
theorem mrg_eq (a b : Rg) : mrg a b = mrgD a b := by
  by_cases h : EL a.hi b.hi
  · unfold mrg mrgD; rw [if_pos h, if_pos h]
  · unfold mrg mrgD; rw [if_neg h, if_neg h]
def readD (most : Nat) (l : List Rg) (lo hi : ByteArray) (ts : Nat) : List Rg :=
  if okR lo hi ts then
    if (insD ⟨lo, hi, ts⟩ l).length ≤ most then insD ⟨lo, hi, ts⟩ l
    else match insD ⟨lo, hi, ts⟩ l with
      | a :: b :: m => insD (mrgD a b) m
      | m => m
  else l
theorem readR_eq (most : Nat) (l : List Rg) (lo hi : ByteArray) (ts : Nat) : readR most l lo hi ts = readD most l lo hi ts := by
  by_cases h : okR lo hi ts
  · unfold readD
    rw [if_pos h]
    by_cases h2 : (insD ⟨lo, hi, ts⟩ l).length ≤ most
    · rw [if_pos h2, readR_few h (by rw [insR_eq]; omega), insR_eq]
    · rw [if_neg h2]
      split
      · rename_i a b m e
        rw [readR_many h (by rw [insR_eq]; omega) (by rw [insR_eq]; exact e), insR_eq, mrg_eq]
      · rename_i m e
        unfold readR
        rw [if_pos h, if_neg (by rw [insR_eq]; omega), insR_eq]
        split
        · rename_i a b m' e'
          exact absurd e' (e a b m')
        · rfl
  · rw [readR_not h]; unfold readD; rw [if_neg h]
def maxD (k : ByteArray) : List Rg → Nat
  | [] => 0
  | x :: l => if hasR x k then max x.ts (maxD k l) else maxD k l
theorem maxR_eq (k : ByteArray) : ∀ l, maxR k l = maxD k l
  | [] => rfl
  | x :: l => by
    have ih := maxR_eq k l
    by_cases h : hasR x k
    · rw [maxR, maxD, if_pos h, if_pos h, ih]
    · rw [maxR, maxD, if_neg h, if_neg h, ih]
theorem srt_nil : Srt [] := List.Pairwise.nil

set_option maxRecDepth 100000 in
set_option maxHeartbeats 2000000 in
theorem works_c (w : World) : Calls Try.prog 8 #[] w fun e w' => e = .returned (.bool true) ∧ Mod [] w w' := by
  have hs1 := hid (readR_srt (most := (2 : Nat)) (lo := ⟨#[98]⟩) (hi := ⟨#[100]⟩) (ts := 5) srt_nil)
  go_enter Try.func8, Try.ntmps8
  go_wp2_with fail
  refine (new_c _ 2 (by omega)).mono ?_
  rintro e w1 ⟨rfl, h1, m1, s1⟩
  have T1 := hid ((Top.start w).made h1 m1 (by simp))
  clear h1 m1 s1
  generalize w.heap.size = b at *
  go_wp2_with fail
  refine (T1.out.call (fun L hL => read_c _ b 2 [] ⟨#[98]⟩ ⟨#[100]⟩ 5 L hL srt_nil (by simp) (by omega))).mono ?_
  rintro e w2 ⟨rfl, h⟩
  rw [show readR 2 [] ⟨#[98]⟩ ⟨#[100]⟩ 5 = [⟨⟨#[98]⟩, ⟨#[100]⟩, 5⟩] from (readR_eq 2 _ _ _ _).trans (by decide +kernel)] at h
  have hs2 : Srt [⟨⟨#[98]⟩, ⟨#[100]⟩, 5⟩] := by simp [Srt]
  have Hs2 := hid hs2
  have T2 := hid h
  clear h T1 hs1 hs2
  go_wp2_with fail
  refine (T2.out.call (fun L hL => read_c _ b 2 _ ⟨#[99]⟩ ⟨#[]⟩ 3 L hL Hs2.out (by simp) (by omega))).mono ?_
  rintro e w3 ⟨rfl, h⟩
  rw [show readR 2 [⟨⟨#[98]⟩, ⟨#[100]⟩, 5⟩] ⟨#[99]⟩ ⟨#[]⟩ 3 = [⟨⟨#[98]⟩, ⟨#[100]⟩, 5⟩, ⟨⟨#[99]⟩, ⟨#[]⟩, 3⟩] from (readR_eq 2 _ _ _ _).trans (by decide +kernel)] at h
  have T3 := hid h
  clear h T2 Hs2
  obtain ⟨L0, hL0⟩ := T3.out.res
  go_wp2_with fail
  refine (T3.out.read (max_c _ b 2 _ ⟨#[97]⟩ L0 hL0)).mono ?_
  rintro e w4 ⟨rfl, h⟩
  rw [show maxR ⟨#[97]⟩ [⟨⟨#[98]⟩, ⟨#[100]⟩, 5⟩, ⟨⟨#[99]⟩, ⟨#[]⟩, 3⟩] = 0 from (maxR_eq _ _).trans (by decide +kernel)]
  have T4 := hid h
  clear h T3 hL0
  obtain ⟨L1, hL1⟩ := T4.out.res
  go_wp2_with fail
  refine (T4.out.read (max_c _ b 2 _ ⟨#[98]⟩ L1 hL1)).mono ?_
  rintro e w5 ⟨rfl, h⟩
  rw [show maxR ⟨#[98]⟩ [⟨⟨#[98]⟩, ⟨#[100]⟩, 5⟩, ⟨⟨#[99]⟩, ⟨#[]⟩, 3⟩] = 5 from (maxR_eq _ _).trans (by decide +kernel)]
  have T5 := hid h
  clear h T4 hL1
  obtain ⟨L2, hL2⟩ := T5.out.res
  go_wp2_with fail
  refine (T5.out.read (max_c _ b 2 _ ⟨#[99]⟩ L2 hL2)).mono ?_
  rintro e w6 ⟨rfl, h⟩
  rw [show maxR ⟨#[99]⟩ [⟨⟨#[98]⟩, ⟨#[100]⟩, 5⟩, ⟨⟨#[99]⟩, ⟨#[]⟩, 3⟩] = 5 from (maxR_eq _ _).trans (by decide +kernel)]
  have T6 := hid h
  clear h T5 hL2
  obtain ⟨L3, hL3⟩ := T6.out.res
  go_wp2_with fail
  refine (T6.out.read (max_c _ b 2 _ ⟨#[122]⟩ L3 hL3)).mono ?_
  rintro e w7 ⟨rfl, h⟩
  rw [show maxR ⟨#[122]⟩ [⟨⟨#[98]⟩, ⟨#[100]⟩, 5⟩, ⟨⟨#[99]⟩, ⟨#[]⟩, 3⟩] = 3 from (maxR_eq _ _).trans (by decide +kernel)]
  have T7 := hid h
  clear h T6 hL3
  obtain ⟨L5, hL5⟩ := T7.out.res
  go_wp2_with fail
  refine (T7.out.read (len_c _ b 2 _ L5 hL5)).mono ?_
  rintro e w8 ⟨rfl, h⟩
  have T8 := hid h
  clear h T7 hL5
  go_wp2
  go_ret
  exact ⟨rfl, T8.out.m⟩

end Go.Proofs.Ytkacjggjmdndaaa
