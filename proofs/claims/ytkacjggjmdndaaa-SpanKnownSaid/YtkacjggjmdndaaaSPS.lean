/- SpanKnown, walked. -/
import Derived.Test.YtkacjggjmdndaaaSPR
namespace Go.Proofs.Ytkacjggjmdndaaa
set_option linter.unusedVariables false
set_option linter.unusedSimpArgs false
set_option linter.unusedSectionVars false
open Go.RowKit

set_option maxRecDepth 100000 in
theorem read_nil (w : World) : Calls Try.prog 10 #[.pointer none, .string ⟨#[97]⟩, .string ⟨#[98]⟩, .int .u64 1] w fun e w' => e = .returned (.tuple #[]) ∧ Mod [] w w' := by
  go_enter Try.func10, Try.ntmps10
  go_wp2
  exact bodyPost_ret (results_none rfl _ _ _) rfl ⟨rfl, Mod.refl _ _⟩

set_option maxRecDepth 100000 in
set_option maxHeartbeats 8000000 in
theorem known_walk (w : World) : Calls Try.prog 5 #[] w fun e w' => e = .returned (.bool true) ∧ Mod [] w w' := by
  go_enter Try.func5, Try.ntmps5
  go_wp2_with fail
  refine (new_c _ 2 (by omega)).mono ?_
  rintro e w1 ⟨rfl, h1, m1, s1⟩
  have T1 := hid ((Top.start w).made h1 m1 (by simp))
  clear h1 m1 s1
  generalize w.heap.size = b at *
  have hs_b := hid srt_nil
  obtain ⟨L, hL⟩ := T1.out.res
  go_wp2_with fail
  refine (T1.out.read (max_c _ b 2 _ ⟨#[97]⟩ L hL)).mono ?_
  rintro e w2 ⟨rfl, h⟩
  rw [show maxR ⟨#[97]⟩ [] = 0 from (maxR_eq _ _).trans (by decide +kernel)]
  have T2 := hid h
  clear h T1 hL
  obtain ⟨L, hL⟩ := T2.out.res
  go_wp2_with fail
  refine (T2.out.read (len_c _ b 2 _ L hL)).mono ?_
  rintro e w3 ⟨rfl, h⟩
  have T3 := hid h
  clear h T2 hL
  go_wp2_with fail
  refine (T3.out.call (fun L hL => read_c _ b 2 [] ⟨#[98]⟩ ⟨#[100]⟩ 5 L hL hs_b.out (by simp) (by omega))).mono ?_
  rintro e w4 ⟨rfl, h⟩
  have hq : readR ((2 : Nat) : Int) [] ⟨#[98]⟩ ⟨#[100]⟩ 5 = [⟨⟨#[98]⟩, ⟨#[100]⟩, 5⟩] := (readR_eq 2 _ _ _ _).trans (by decide +kernel)
  have hs2 := readR_srt (most := ((2 : Nat) : Int)) (lo := ⟨#[98]⟩) (hi := ⟨#[100]⟩) (ts := 5) hs_b.out
  rw [hq] at hs2
  rw [show readR 2 [] ⟨#[98]⟩ ⟨#[100]⟩ 5 = [⟨⟨#[98]⟩, ⟨#[100]⟩, 5⟩] from hq] at h
  replace hs_b := hid hs2
  have T4 := hid h
  clear h hq hs2 T3
  go_wp2_with fail
  refine (T4.out.call (fun L hL => read_c _ b 2 [⟨⟨#[98]⟩, ⟨#[100]⟩, 5⟩] ⟨#[99]⟩ ⟨#[]⟩ 3 L hL hs_b.out (by simp) (by omega))).mono ?_
  rintro e w5 ⟨rfl, h⟩
  have hq : readR ((2 : Nat) : Int) [⟨⟨#[98]⟩, ⟨#[100]⟩, 5⟩] ⟨#[99]⟩ ⟨#[]⟩ 3 = [⟨⟨#[98]⟩, ⟨#[100]⟩, 5⟩, ⟨⟨#[99]⟩, ⟨#[]⟩, 3⟩] := (readR_eq 2 _ _ _ _).trans (by decide +kernel)
  have hs2 := readR_srt (most := ((2 : Nat) : Int)) (lo := ⟨#[99]⟩) (hi := ⟨#[]⟩) (ts := 3) hs_b.out
  rw [hq] at hs2
  rw [show readR 2 [⟨⟨#[98]⟩, ⟨#[100]⟩, 5⟩] ⟨#[99]⟩ ⟨#[]⟩ 3 = [⟨⟨#[98]⟩, ⟨#[100]⟩, 5⟩, ⟨⟨#[99]⟩, ⟨#[]⟩, 3⟩] from hq] at h
  replace hs_b := hid hs2
  have T5 := hid h
  clear h hq hs2 T4
  go_wp2_with fail
  refine (T5.out.call (fun L hL => read_c _ b 2 [⟨⟨#[98]⟩, ⟨#[100]⟩, 5⟩, ⟨⟨#[99]⟩, ⟨#[]⟩, 3⟩] ⟨#[98]⟩ ⟨#[100]⟩ 4 L hL hs_b.out (by simp) (by omega))).mono ?_
  rintro e w6 ⟨rfl, h⟩
  have hq : readR ((2 : Nat) : Int) [⟨⟨#[98]⟩, ⟨#[100]⟩, 5⟩, ⟨⟨#[99]⟩, ⟨#[]⟩, 3⟩] ⟨#[98]⟩ ⟨#[100]⟩ 4 = [⟨⟨#[98]⟩, ⟨#[100]⟩, 5⟩, ⟨⟨#[99]⟩, ⟨#[]⟩, 3⟩] := (readR_eq 2 _ _ _ _).trans (by decide +kernel)
  have hs2 := readR_srt (most := ((2 : Nat) : Int)) (lo := ⟨#[98]⟩) (hi := ⟨#[100]⟩) (ts := 4) hs_b.out
  rw [hq] at hs2
  rw [show readR 2 [⟨⟨#[98]⟩, ⟨#[100]⟩, 5⟩, ⟨⟨#[99]⟩, ⟨#[]⟩, 3⟩] ⟨#[98]⟩ ⟨#[100]⟩ 4 = [⟨⟨#[98]⟩, ⟨#[100]⟩, 5⟩, ⟨⟨#[99]⟩, ⟨#[]⟩, 3⟩] from hq] at h
  replace hs_b := hid hs2
  have T6 := hid h
  clear h hq hs2 T5
  go_wp2_with fail
  refine (T6.out.call (fun L hL => read_c _ b 2 [⟨⟨#[98]⟩, ⟨#[100]⟩, 5⟩, ⟨⟨#[99]⟩, ⟨#[]⟩, 3⟩] ⟨#[100]⟩ ⟨#[98]⟩ 9 L hL hs_b.out (by simp) (by omega))).mono ?_
  rintro e w7 ⟨rfl, h⟩
  have hq : readR ((2 : Nat) : Int) [⟨⟨#[98]⟩, ⟨#[100]⟩, 5⟩, ⟨⟨#[99]⟩, ⟨#[]⟩, 3⟩] ⟨#[100]⟩ ⟨#[98]⟩ 9 = [⟨⟨#[98]⟩, ⟨#[100]⟩, 5⟩, ⟨⟨#[99]⟩, ⟨#[]⟩, 3⟩] := (readR_eq 2 _ _ _ _).trans (by decide +kernel)
  have hs2 := readR_srt (most := ((2 : Nat) : Int)) (lo := ⟨#[100]⟩) (hi := ⟨#[98]⟩) (ts := 9) hs_b.out
  rw [hq] at hs2
  rw [show readR 2 [⟨⟨#[98]⟩, ⟨#[100]⟩, 5⟩, ⟨⟨#[99]⟩, ⟨#[]⟩, 3⟩] ⟨#[100]⟩ ⟨#[98]⟩ 9 = [⟨⟨#[98]⟩, ⟨#[100]⟩, 5⟩, ⟨⟨#[99]⟩, ⟨#[]⟩, 3⟩] from hq] at h
  replace hs_b := hid hs2
  have T7 := hid h
  clear h hq hs2 T6
  go_wp2_with fail
  refine (T7.out.call (fun L hL => read_c _ b 2 [⟨⟨#[98]⟩, ⟨#[100]⟩, 5⟩, ⟨⟨#[99]⟩, ⟨#[]⟩, 3⟩] ⟨#[98]⟩ ⟨#[98]⟩ 9 L hL hs_b.out (by simp) (by omega))).mono ?_
  rintro e w8 ⟨rfl, h⟩
  have hq : readR ((2 : Nat) : Int) [⟨⟨#[98]⟩, ⟨#[100]⟩, 5⟩, ⟨⟨#[99]⟩, ⟨#[]⟩, 3⟩] ⟨#[98]⟩ ⟨#[98]⟩ 9 = [⟨⟨#[98]⟩, ⟨#[100]⟩, 5⟩, ⟨⟨#[99]⟩, ⟨#[]⟩, 3⟩] := (readR_eq 2 _ _ _ _).trans (by decide +kernel)
  have hs2 := readR_srt (most := ((2 : Nat) : Int)) (lo := ⟨#[98]⟩) (hi := ⟨#[98]⟩) (ts := 9) hs_b.out
  rw [hq] at hs2
  rw [show readR 2 [⟨⟨#[98]⟩, ⟨#[100]⟩, 5⟩, ⟨⟨#[99]⟩, ⟨#[]⟩, 3⟩] ⟨#[98]⟩ ⟨#[98]⟩ 9 = [⟨⟨#[98]⟩, ⟨#[100]⟩, 5⟩, ⟨⟨#[99]⟩, ⟨#[]⟩, 3⟩] from hq] at h
  replace hs_b := hid hs2
  have T8 := hid h
  clear h hq hs2 T7
  go_wp2_with fail
  refine (T8.out.call (fun L hL => read_c _ b 2 [⟨⟨#[98]⟩, ⟨#[100]⟩, 5⟩, ⟨⟨#[99]⟩, ⟨#[]⟩, 3⟩] ⟨#[97]⟩ ⟨#[122]⟩ 0 L hL hs_b.out (by simp) (by omega))).mono ?_
  rintro e w9 ⟨rfl, h⟩
  have hq : readR ((2 : Nat) : Int) [⟨⟨#[98]⟩, ⟨#[100]⟩, 5⟩, ⟨⟨#[99]⟩, ⟨#[]⟩, 3⟩] ⟨#[97]⟩ ⟨#[122]⟩ 0 = [⟨⟨#[98]⟩, ⟨#[100]⟩, 5⟩, ⟨⟨#[99]⟩, ⟨#[]⟩, 3⟩] := (readR_eq 2 _ _ _ _).trans (by decide +kernel)
  have hs2 := readR_srt (most := ((2 : Nat) : Int)) (lo := ⟨#[97]⟩) (hi := ⟨#[122]⟩) (ts := 0) hs_b.out
  rw [hq] at hs2
  rw [show readR 2 [⟨⟨#[98]⟩, ⟨#[100]⟩, 5⟩, ⟨⟨#[99]⟩, ⟨#[]⟩, 3⟩] ⟨#[97]⟩ ⟨#[122]⟩ 0 = [⟨⟨#[98]⟩, ⟨#[100]⟩, 5⟩, ⟨⟨#[99]⟩, ⟨#[]⟩, 3⟩] from hq] at h
  replace hs_b := hid hs2
  have T9 := hid h
  clear h hq hs2 T8
  obtain ⟨L, hL⟩ := T9.out.res
  go_wp2_with fail
  refine (T9.out.read (len_c _ b 2 _ L hL)).mono ?_
  rintro e w10 ⟨rfl, h⟩
  have T10 := hid h
  clear h T9 hL
  obtain ⟨L, hL⟩ := T10.out.res
  go_wp2_with fail
  refine (T10.out.read (max_c _ b 2 _ ⟨#[98]⟩ L hL)).mono ?_
  rintro e w11 ⟨rfl, h⟩
  rw [show maxR ⟨#[98]⟩ [⟨⟨#[98]⟩, ⟨#[100]⟩, 5⟩, ⟨⟨#[99]⟩, ⟨#[]⟩, 3⟩] = 5 from (maxR_eq _ _).trans (by decide +kernel)]
  have T11 := hid h
  clear h T10 hL
  obtain ⟨L, hL⟩ := T11.out.res
  go_wp2_with fail
  refine (T11.out.read (max_c _ b 2 _ ⟨#[100]⟩ L hL)).mono ?_
  rintro e w12 ⟨rfl, h⟩
  rw [show maxR ⟨#[100]⟩ [⟨⟨#[98]⟩, ⟨#[100]⟩, 5⟩, ⟨⟨#[99]⟩, ⟨#[]⟩, 3⟩] = 3 from (maxR_eq _ _).trans (by decide +kernel)]
  have T12 := hid h
  clear h T11 hL
  obtain ⟨L, hL⟩ := T12.out.res
  go_wp2_with fail
  refine (T12.out.read (max_c _ b 2 _ ⟨#[97]⟩ L hL)).mono ?_
  rintro e w13 ⟨rfl, h⟩
  rw [show maxR ⟨#[97]⟩ [⟨⟨#[98]⟩, ⟨#[100]⟩, 5⟩, ⟨⟨#[99]⟩, ⟨#[]⟩, 3⟩] = 0 from (maxR_eq _ _).trans (by decide +kernel)]
  have T13 := hid h
  clear h T12 hL
  obtain ⟨L, hL⟩ := T13.out.res
  go_wp2_with fail
  refine (T13.out.read (max_c _ b 2 _ ⟨#[122]⟩ L hL)).mono ?_
  rintro e w14 ⟨rfl, h⟩
  rw [show maxR ⟨#[122]⟩ [⟨⟨#[98]⟩, ⟨#[100]⟩, 5⟩, ⟨⟨#[99]⟩, ⟨#[]⟩, 3⟩] = 3 from (maxR_eq _ _).trans (by decide +kernel)]
  have T14 := hid h
  clear h T13 hL
  go_wp2_with fail
  refine (T14.out.call (fun L hL => read_c _ b 2 [⟨⟨#[98]⟩, ⟨#[100]⟩, 5⟩, ⟨⟨#[99]⟩, ⟨#[]⟩, 3⟩] ⟨#[120]⟩ ⟨#[121]⟩ 9 L hL hs_b.out (by simp) (by omega))).mono ?_
  rintro e w15 ⟨rfl, h⟩
  have hq : readR ((2 : Nat) : Int) [⟨⟨#[98]⟩, ⟨#[100]⟩, 5⟩, ⟨⟨#[99]⟩, ⟨#[]⟩, 3⟩] ⟨#[120]⟩ ⟨#[121]⟩ 9 = [⟨⟨#[98]⟩, ⟨#[]⟩, 5⟩, ⟨⟨#[120]⟩, ⟨#[121]⟩, 9⟩] := (readR_eq 2 _ _ _ _).trans (by decide +kernel)
  have hs2 := readR_srt (most := ((2 : Nat) : Int)) (lo := ⟨#[120]⟩) (hi := ⟨#[121]⟩) (ts := 9) hs_b.out
  rw [hq] at hs2
  rw [show readR 2 [⟨⟨#[98]⟩, ⟨#[100]⟩, 5⟩, ⟨⟨#[99]⟩, ⟨#[]⟩, 3⟩] ⟨#[120]⟩ ⟨#[121]⟩ 9 = [⟨⟨#[98]⟩, ⟨#[]⟩, 5⟩, ⟨⟨#[120]⟩, ⟨#[121]⟩, 9⟩] from hq] at h
  replace hs_b := hid hs2
  have T15 := hid h
  clear h hq hs2 T14
  obtain ⟨L, hL⟩ := T15.out.res
  go_wp2_with fail
  refine (T15.out.read (len_c _ b 2 _ L hL)).mono ?_
  rintro e w16 ⟨rfl, h⟩
  have T16 := hid h
  clear h T15 hL
  obtain ⟨L, hL⟩ := T16.out.res
  go_wp2_with fail
  refine (T16.out.read (max_c _ b 2 _ ⟨#[98]⟩ L hL)).mono ?_
  rintro e w17 ⟨rfl, h⟩
  rw [show maxR ⟨#[98]⟩ [⟨⟨#[98]⟩, ⟨#[]⟩, 5⟩, ⟨⟨#[120]⟩, ⟨#[121]⟩, 9⟩] = 5 from (maxR_eq _ _).trans (by decide +kernel)]
  have T17 := hid h
  clear h T16 hL
  obtain ⟨L, hL⟩ := T17.out.res
  go_wp2_with fail
  refine (T17.out.read (max_c _ b 2 _ ⟨#[122]⟩ L hL)).mono ?_
  rintro e w18 ⟨rfl, h⟩
  rw [show maxR ⟨#[122]⟩ [⟨⟨#[98]⟩, ⟨#[]⟩, 5⟩, ⟨⟨#[120]⟩, ⟨#[121]⟩, 9⟩] = 5 from (maxR_eq _ _).trans (by decide +kernel)]
  have T18 := hid h
  clear h T17 hL
  obtain ⟨L, hL⟩ := T18.out.res
  go_wp2_with fail
  refine (T18.out.read (max_c _ b 2 _ ⟨#[120]⟩ L hL)).mono ?_
  rintro e w19 ⟨rfl, h⟩
  rw [show maxR ⟨#[120]⟩ [⟨⟨#[98]⟩, ⟨#[]⟩, 5⟩, ⟨⟨#[120]⟩, ⟨#[121]⟩, 9⟩] = 9 from (maxR_eq _ _).trans (by decide +kernel)]
  have T19 := hid h
  clear h T18 hL
  obtain ⟨L, hL⟩ := T19.out.res
  go_wp2_with fail
  refine (T19.out.read (max_c _ b 2 _ ⟨#[97]⟩ L hL)).mono ?_
  rintro e w20 ⟨rfl, h⟩
  rw [show maxR ⟨#[97]⟩ [⟨⟨#[98]⟩, ⟨#[]⟩, 5⟩, ⟨⟨#[120]⟩, ⟨#[121]⟩, 9⟩] = 0 from (maxR_eq _ _).trans (by decide +kernel)]
  have T20 := hid h
  clear h T19 hL
  obtain ⟨L, hL⟩ := T20.out.res
  go_wp2_with fail
  refine (T20.out.read (max_c _ b 2 _ ⟨#[121]⟩ L hL)).mono ?_
  rintro e w21 ⟨rfl, h⟩
  rw [show maxR ⟨#[121]⟩ [⟨⟨#[98]⟩, ⟨#[]⟩, 5⟩, ⟨⟨#[120]⟩, ⟨#[121]⟩, 9⟩] = 5 from (maxR_eq _ _).trans (by decide +kernel)]
  have T21 := hid h
  clear h T20 hL
  go_wp2_with fail
  refine (new_c _ 1 (by omega)).mono ?_
  rintro e w22 ⟨rfl, h1, m1, s1⟩
  have T22 := hid (T21.out.made h1 m1 (by simp))
  clear h1 m1 s1 T21
  generalize w21.heap.size = c at *
  have hs_c := hid srt_nil
  go_wp2_with fail
  refine (T22.out.call (fun L hL => read_c _ c 1 [] ⟨#[97]⟩ ⟨#[98]⟩ 1 L hL hs_c.out (by simp) (by omega))).mono ?_
  rintro e w23 ⟨rfl, h⟩
  have hq : readR ((1 : Nat) : Int) [] ⟨#[97]⟩ ⟨#[98]⟩ 1 = [⟨⟨#[97]⟩, ⟨#[98]⟩, 1⟩] := (readR_eq 1 _ _ _ _).trans (by decide +kernel)
  have hs2 := readR_srt (most := ((1 : Nat) : Int)) (lo := ⟨#[97]⟩) (hi := ⟨#[98]⟩) (ts := 1) hs_c.out
  rw [hq] at hs2
  rw [show readR 1 [] ⟨#[97]⟩ ⟨#[98]⟩ 1 = [⟨⟨#[97]⟩, ⟨#[98]⟩, 1⟩] from hq] at h
  replace hs_c := hid hs2
  have T23 := hid h
  clear h hq hs2 T22
  go_wp2_with fail
  refine (T23.out.call (fun L hL => read_c _ c 1 [⟨⟨#[97]⟩, ⟨#[98]⟩, 1⟩] ⟨#[100]⟩ ⟨#[101]⟩ 2 L hL hs_c.out (by simp) (by omega))).mono ?_
  rintro e w24 ⟨rfl, h⟩
  have hq : readR ((1 : Nat) : Int) [⟨⟨#[97]⟩, ⟨#[98]⟩, 1⟩] ⟨#[100]⟩ ⟨#[101]⟩ 2 = [⟨⟨#[97]⟩, ⟨#[101]⟩, 2⟩] := (readR_eq 1 _ _ _ _).trans (by decide +kernel)
  have hs2 := readR_srt (most := ((1 : Nat) : Int)) (lo := ⟨#[100]⟩) (hi := ⟨#[101]⟩) (ts := 2) hs_c.out
  rw [hq] at hs2
  rw [show readR 1 [⟨⟨#[97]⟩, ⟨#[98]⟩, 1⟩] ⟨#[100]⟩ ⟨#[101]⟩ 2 = [⟨⟨#[97]⟩, ⟨#[101]⟩, 2⟩] from hq] at h
  replace hs_c := hid hs2
  have T24 := hid h
  clear h hq hs2 T23
  obtain ⟨L, hL⟩ := T24.out.res
  go_wp2_with fail
  refine (T24.out.read (len_c _ c 1 _ L hL)).mono ?_
  rintro e w25 ⟨rfl, h⟩
  have T25 := hid h
  clear h T24 hL
  obtain ⟨L, hL⟩ := T25.out.res
  go_wp2_with fail
  refine (T25.out.read (max_c _ c 1 _ ⟨#[99]⟩ L hL)).mono ?_
  rintro e w26 ⟨rfl, h⟩
  rw [show maxR ⟨#[99]⟩ [⟨⟨#[97]⟩, ⟨#[101]⟩, 2⟩] = 2 from (maxR_eq _ _).trans (by decide +kernel)]
  have T26 := hid h
  clear h T25 hL
  obtain ⟨L, hL⟩ := T26.out.res
  go_wp2_with fail
  refine (T26.out.read (max_c _ c 1 _ ⟨#[97]⟩ L hL)).mono ?_
  rintro e w27 ⟨rfl, h⟩
  rw [show maxR ⟨#[97]⟩ [⟨⟨#[97]⟩, ⟨#[101]⟩, 2⟩] = 2 from (maxR_eq _ _).trans (by decide +kernel)]
  have T27 := hid h
  clear h T26 hL
  obtain ⟨L, hL⟩ := T27.out.res
  go_wp2_with fail
  refine (T27.out.read (max_c _ c 1 _ ⟨#[101]⟩ L hL)).mono ?_
  rintro e w28 ⟨rfl, h⟩
  rw [show maxR ⟨#[101]⟩ [⟨⟨#[97]⟩, ⟨#[101]⟩, 2⟩] = 0 from (maxR_eq _ _).trans (by decide +kernel)]
  have T28 := hid h
  clear h T27 hL
  go_wp2_with fail
  refine (T28.out.call (fun L hL => read_c _ c 1 [⟨⟨#[97]⟩, ⟨#[101]⟩, 2⟩] ⟨#[]⟩ ⟨#[97]⟩ 7 L hL hs_c.out (by simp) (by omega))).mono ?_
  rintro e w29 ⟨rfl, h⟩
  have hq : readR ((1 : Nat) : Int) [⟨⟨#[97]⟩, ⟨#[101]⟩, 2⟩] ⟨#[]⟩ ⟨#[97]⟩ 7 = [⟨⟨#[]⟩, ⟨#[101]⟩, 7⟩] := (readR_eq 1 _ _ _ _).trans (by decide +kernel)
  have hs2 := readR_srt (most := ((1 : Nat) : Int)) (lo := ⟨#[]⟩) (hi := ⟨#[97]⟩) (ts := 7) hs_c.out
  rw [hq] at hs2
  rw [show readR 1 [⟨⟨#[97]⟩, ⟨#[101]⟩, 2⟩] ⟨#[]⟩ ⟨#[97]⟩ 7 = [⟨⟨#[]⟩, ⟨#[101]⟩, 7⟩] from hq] at h
  replace hs_c := hid hs2
  have T29 := hid h
  clear h hq hs2 T28
  go_wp2_with fail
  refine (T29.out.read (read_nil _)).mono ?_
  rintro e w30 ⟨rfl, h⟩
  have T30 := hid h
  clear h T29
  obtain ⟨L, hL⟩ := T30.out.res
  go_wp2_with fail
  refine (T30.out.read (max_c _ c 1 _ ⟨#[]⟩ L hL)).mono ?_
  rintro e w31 ⟨rfl, h⟩
  rw [show maxR ⟨#[]⟩ [⟨⟨#[]⟩, ⟨#[101]⟩, 7⟩] = 7 from (maxR_eq _ _).trans (by decide +kernel)]
  have T31 := hid h
  clear h T30 hL
  obtain ⟨L, hL⟩ := T31.out.res
  go_wp2_with fail
  refine (T31.out.read (max_c _ c 1 _ ⟨#[100]⟩ L hL)).mono ?_
  rintro e w32 ⟨rfl, h⟩
  rw [show maxR ⟨#[100]⟩ [⟨⟨#[]⟩, ⟨#[101]⟩, 7⟩] = 7 from (maxR_eq _ _).trans (by decide +kernel)]
  have T32 := hid h
  clear h T31 hL
  obtain ⟨L, hL⟩ := T32.out.res
  go_wp2_with fail
  refine (T32.out.read (max_c _ c 1 _ ⟨#[101]⟩ L hL)).mono ?_
  rintro e w33 ⟨rfl, h⟩
  rw [show maxR ⟨#[101]⟩ [⟨⟨#[]⟩, ⟨#[101]⟩, 7⟩] = 0 from (maxR_eq _ _).trans (by decide +kernel)]
  have T33 := hid h
  clear h T32 hL
  go_wp2_with fail
  refine (T33.out.read (new_no _ 0 (by omega))).mono ?_
  rintro e w34 ⟨rfl, h⟩
  have T34 := hid h
  clear h T33
  go_wp2_with fail
  refine (T34.out.read (new_no _ (-1) (by omega))).mono ?_
  rintro e w35 ⟨rfl, h⟩
  have T35 := hid h
  clear h T34
  go_wp2_with fail
  refine (T35.out.read (max_nil _ ⟨#[97]⟩)).mono ?_
  rintro e w36 ⟨rfl, h⟩
  have T36 := hid h
  clear h T35
  go_wp2_with fail
  refine (T36.out.read (len_nil _)).mono ?_
  rintro e w37 ⟨rfl, h⟩
  have T37 := hid h
  clear h T36
  go_wp2_with fail
  refine (T37.out.read (works_c _)).mono ?_
  rintro e w38 ⟨rfl, h⟩
  have T38 := hid h
  clear h T37
  go_wp2
  go_ret
  exact ⟨rfl, T38.out.m⟩

end Go.Proofs.Ytkacjggjmdndaaa
