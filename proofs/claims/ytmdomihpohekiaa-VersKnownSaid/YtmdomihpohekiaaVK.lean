/- The law VersKnown (closed), walked. -/
import Derived.Test.YtmdomihpohekiaaVH
namespace Go.Proofs.Ytmdomihpohekiaa
set_option linter.unusedVariables false
set_option linter.unusedSimpArgs false
set_option linter.unusedSectionVars false
open Go.RowKit

theorem lv_nil (W : World) : Lv W (.slice none 0 0) [] := ⟨none, 0, rfl, Or.inl rfl, by simp⟩
def kX : Vr := ⟨1, 0, true, ⟨#[120]⟩, false⟩
def kL : Vr := ⟨1, 0, false, ⟨#[49, 50, 51, 52, 53, 54, 55, 56, 57, 48, 49, 50, 51, 52, 53, 54, 55, 56, 57, 48, 49, 50, 51, 52, 53]⟩, false⟩
theorem kX_e : putE [] kX = 2 := by decide +kernel
theorem kL_e : putE [] kL = 3 := by decide +kernel

set_option maxRecDepth 100000 in
set_option maxHeartbeats 8000000 in
theorem known_c (w : World) : Calls Try.prog 7 #[] w fun e w' => e = .returned (.bool true) ∧ Mod [] w w' := by
  go_enter Try.func7, Try.ntmps7
  go_wp2_with fail
  refine (((Top.start w).alloc _).own (of_new _ [3, 1, 3, 2] (by decide) 4 rfl _ (by simp))).mono ?_
  rintro e w1 ⟨a1, c1, rfl, h⟩
  rw [show ofB [3, 1, 3, 2] = [vv 3 1, vv 3 2] from rfl] at h ⊢
  have h1 := hid h
  clear h
  go_wp2_with fail
  refine (h1.out.seen (visible_c _ _ _ 9 h1.out.lv)).mono ?_
  rintro e w2 ⟨rfl, h⟩
  rw [show seenB (visP 9) [vv 3 1, vv 3 2] = none from rfl]
  have h2 := hid (h.alloc (.cells (vrC (v0)).toArray 25))
  clear h
  simp only [Option.getD_some, Option.getD_none, Option.isSome_some, Option.isSome_none, vrV, vv, v0]
  clear h1
  go_wp2_with fail
  refine (h2.out.seen (newest_c _ _ _  h2.out.lv)).mono ?_
  rintro e w3 ⟨rfl, h⟩
  rw [show seenB (fun _ => true) [vv 3 1, vv 3 2] = none from rfl]
  have h3 := hid (h.alloc (.cells (vrC (v0)).toArray 25))
  clear h
  simp only [Option.getD_some, Option.getD_none, Option.isSome_some, Option.isSome_none, vrV, vv, v0]
  clear h2
  go_wp2_with fail
  refine (h3.out.seen (below_c _ _ _ 9 h3.out.lv)).mono ?_
  rintro e w4 ⟨rfl, h⟩
  rw [show seenB (belP 9) [vv 3 1, vv 3 2] = none from rfl]
  have h4 := hid (h.alloc (.cells (vrC (v0)).toArray 25))
  clear h
  simp only [Option.getD_some, Option.getD_none, Option.isSome_some, Option.isSome_none, vrV, vv, v0]
  clear h3
  go_wp2_with fail
  refine (h4.out.put (put_c _ _ _ (vv 9 0) h4.out.lv (by decide) (by decide))).mono ?_
  rintro e w5 ⟨a5, c5, rfl, h⟩
  rw [show putL [vv 3 1, vv 3 2] (vv 9 0) = [vv 3 1, vv 3 2] from rfl] at h ⊢
  rw [show putE [vv 3 1, vv 3 2] (vv 9 0) = 2 from rfl]
  have h5 := hid h
  clear h
  clear h4
  go_wp2_with fail
  refine (h5.out.put (put_c _ _ _ kX (lv_nil _) (by decide) (by decide))).mono ?_
  rintro e w6 ⟨a6, c6, rfl, h⟩
  rw [kX_e]
  have h6 := hid h.drop
  clear h
  clear h5
  go_wp2_with fail
  refine (h6.out.put (put_c _ _ _ kL (lv_nil _) (by decide) (by decide))).mono ?_
  rintro e w7 ⟨a7, c7, rfl, h⟩
  rw [kL_e]
  have h7 := hid h.drop
  clear h
  clear h6
  go_wp2_with fail
  refine (h7.out.put (put_c _ _ _ v0 (lv_nil _) (by decide) (by decide))).mono ?_
  rintro e w8 ⟨a8, c8, rfl, h⟩
  rw [show putL [] v0 = [v0] from rfl] at h ⊢
  rw [show putE [] v0 = 0 from rfl]
  have h8 := hid h
  clear h
  clear h7
  go_wp2_with fail
  refine ((h8.out.alloc _).own (of_new _ [0, 1] (by decide) 2 rfl _ (by simp))).mono ?_
  rintro e w9 ⟨a9, c9, rfl, h⟩
  rw [show ofB [0, 1] = [vv 0 1] from rfl] at h ⊢
  have h9 := hid h
  clear h
  clear h8
  go_wp2_with fail
  refine (h9.out.seen (below_c _ _ _ 0 h9.out.lv)).mono ?_
  rintro e w10 ⟨rfl, h⟩
  rw [show seenB (belP 0) [vv 0 1] = none from rfl]
  have h10 := hid (h.drop.alloc (.cells (vrC (v0)).toArray 25))
  clear h
  simp only [Option.getD_some, Option.getD_none, Option.isSome_some, Option.isSome_none, vrV, vv, v0]
  clear h9
  go_wp2_with fail
  refine ((h10.out.alloc _).own (of_new _ [0, 1] (by decide) 2 rfl _ (by simp))).mono ?_
  rintro e w11 ⟨a11, c11, rfl, h⟩
  rw [show ofB [0, 1] = [vv 0 1] from rfl] at h ⊢
  have h11 := hid h
  clear h
  clear h10
  go_wp2_with fail
  refine (h11.out.seen (visible_c _ _ _ 0 h11.out.lv)).mono ?_
  rintro e w12 ⟨rfl, h⟩
  rw [show seenB (visP 0) [vv 0 1] = some (vv 0 1) from rfl]
  have h12 := hid (h.drop.box (vrC (vv 0 1)).toArray 25)
  clear h
  simp only [Option.getD_some, Option.getD_none, Option.isSome_some, Option.isSome_none, vrV, vv, v0]
  clear h11
  go_wp2_with fail
  refine ((h12.out.alloc _).own (of_new _ [1, 2, 3, 0, 5, 6] (by decide) 6 rfl _ (by simp))).mono ?_
  rintro e w13 ⟨a13, c13, rfl, h⟩
  rw [show ofB [1, 2, 3, 0, 5, 6] = [vv 1 2, vv 3 0, vv 5 6] from rfl] at h ⊢
  have h13 := hid h
  clear h
  clear h12
  go_wp2_with fail
  refine (h13.out.own (acked_c _ _ _ 0 true h13.out.lv (by decide))).mono ?_
  rintro e w14 ⟨a14, c14, rfl, h⟩
  rw [show turnedB (ackF 0 true) [vv 1 2, vv 3 0, vv 5 6] = [⟨1, 2, false, ⟨#[]⟩, true⟩, ⟨3, 0, false, ⟨#[]⟩, false⟩, ⟨5, 6, false, ⟨#[]⟩, true⟩] from rfl] at h ⊢
  have h14 := hid h.drop2
  clear h
  clear h13
  go_wp2_with fail
  refine (h14.out.own (acked_c _ _ _ 0 false h14.out.lv (by decide))).mono ?_
  rintro e w15 ⟨a15, c15, rfl, h⟩
  rw [show turnedB (ackF 0 false) [⟨1, 2, false, ⟨#[]⟩, true⟩, ⟨3, 0, false, ⟨#[]⟩, false⟩, ⟨5, 6, false, ⟨#[]⟩, true⟩] = [vv 1 2, vv 3 0, vv 5 6] from rfl] at h ⊢
  have h15 := hid h
  clear h
  clear h14
  go_wp2_with fail
  refine (h15.out.read (works_c _)).mono ?_
  rintro e w16 ⟨rfl, h⟩
  have h16 := hid h
  clear h h15
  go_wp2_with fail
  refine (h16.out.read (same_c _ _ _ _ _ h16.out.drop.drop.drop.drop.lv h16.out.drop.drop.drop.drop.drop.lv)).mono ?_
  rintro e w17 ⟨rfl, h⟩
  rw [(sameB_iff _ _).2 rfl]
  have h17 := hid h
  clear h
  clear h16
  obtain ⟨bq, oq, hq, _⟩ := h17.out.drop.lv.at (i := 0) rfl
  subst hq
  have hq0 := h17.out.drop.lv.at (i := 0) rfl
  simp only [Option.some.injEq, Addr.mk.injEq, and_true] at hq0
  obtain ⟨_, _, ⟨rfl, rfl⟩, _, _, _, _, q0⟩ := hq0
  have hq1 := h17.out.drop.lv.at (i := 1) rfl
  simp only [Option.some.injEq, Addr.mk.injEq, and_true] at hq1
  obtain ⟨_, _, ⟨rfl, rfl⟩, _, _, _, _, q1⟩ := hq1
  have hq2 := h17.out.drop.lv.at (i := 2) rfl
  simp only [Option.some.injEq, Addr.mk.injEq, and_true] at hq2
  obtain ⟨_, _, ⟨rfl, rfl⟩, _, _, _, _, q2⟩ := hq2
  replace q0 : w17.cell? ⟨bq, oq + 4, none⟩ = some (.bool true) := by simpa using q0
  replace q1 : w17.cell? ⟨bq, oq + 5 + 4, none⟩ = some (.bool false) := q1
  replace q2 : w17.cell? ⟨bq, oq + 10 + 4, none⟩ = some (.bool true) := q2
  have bM : w17.cell? ⟨w12.heap.size, 1, none⟩ = some (.int .u64 1) := h17.out.drop.drop.get.cell 1
  go_wp2_with fail
  refine ((h17.out.alloc _).own (of_new _ [1, 2, 3, 0, 5, 6] (by decide) 6 rfl _ (by simp))).mono ?_
  rintro e w18 ⟨a18, c18, rfl, h⟩
  rw [show ofB [1, 2, 3, 0, 5, 6] = [vv 1 2, vv 3 0, vv 5 6] from rfl] at h ⊢
  have h18 := hid h
  clear h
  clear h17
  go_wp2_with fail
  refine (h18.out.read (same_c _ _ _ _ _ h18.out.drop.lv h18.out.lv)).mono ?_
  rintro e w19 ⟨rfl, h⟩
  rw [(sameB_iff _ _).2 rfl]
  have h19 := hid h.drop
  clear h
  clear h18
  go_wp2_with fail
  refine (h19.out.own (cut_c _ _ _ 3 h19.out.drop.drop.drop.drop.drop.lv (by decide))).mono ?_
  rintro e w20 ⟨a20, c20, rfl, h⟩
  rw [show withoutB (tsP 3) [vv 3 1, vv 3 2] = [vv 3 1, vv 3 2] from rfl] at h ⊢
  have h20 := hid h
  clear h
  clear h19
  go_wp2_with fail
  refine (h20.out.read (same_c _ _ _ _ _ h20.out.lv h20.out.drop.drop.drop.drop.drop.drop.lv)).mono ?_
  rintro e w21 ⟨rfl, h⟩
  rw [(sameB_iff _ _).2 rfl]
  have h21 := hid h.drop
  clear h
  clear h20
  go_wp2_with fail
  refine (h21.out.own (logged_c _ _ _ 3 9 h21.out.drop.drop.drop.drop.drop.lv (by decide))).mono ?_
  rintro e w22 ⟨a22, c22, rfl, h⟩
  rw [show turnedB (logF 3 9) [vv 3 1, vv 3 2] = [vv 3 1, vv 3 2] from rfl] at h ⊢
  have h22 := hid h
  clear h
  clear h21
  go_wp2_with fail
  refine (h22.out.read (same_c _ _ _ _ _ h22.out.lv h22.out.drop.drop.drop.drop.drop.drop.lv)).mono ?_
  rintro e w23 ⟨rfl, h⟩
  rw [(sameB_iff _ _).2 rfl]
  have h23 := hid h.drop
  clear h
  clear h22
  go_wp2_with fail
  refine (h23.out.own (prune_c _ _ _ 9 h23.out.drop.drop.drop.drop.drop.lv (by decide))).mono ?_
  rintro e w24 ⟨a24, c24, rfl, h⟩
  rw [show pruneB 9 [vv 3 1, vv 3 2] = [vv 3 1, vv 3 2] from rfl] at h ⊢
  have h24 := hid h
  clear h
  clear h23
  go_wp2_with fail
  refine (h24.out.read (same_c _ _ _ _ _ h24.out.lv h24.out.drop.drop.drop.drop.drop.drop.lv)).mono ?_
  rintro e w25 ⟨rfl, h⟩
  rw [(sameB_iff _ _).2 rfl]
  have h25 := hid h.drop
  clear h
  clear h24
  go_wp2_with fail
  refine (h25.out.own (prune_c _ _ _ 1 (lv_nil _) (by decide))).mono ?_
  rintro e w26 ⟨a26, c26, rfl, h⟩
  rw [show pruneB 1 [] = [] from rfl] at h ⊢
  have h26 := hid h.drop
  clear h
  clear h25
  go_wp2_with fail
  refine ((h26.out.alloc _).own (of_new _ [1, 0, 2, 0] (by decide) 4 rfl _ (by simp))).mono ?_
  rintro e w27 ⟨a27, c27, rfl, h⟩
  rw [show ofB [1, 0, 2, 0] = [vv 1 0, vv 2 0] from rfl] at h ⊢
  have h27 := hid h
  clear h
  clear h26
  go_wp2_with fail
  refine (h27.out.own (prune_c _ _ _ 5 h27.out.lv (by decide))).mono ?_
  rintro e w28 ⟨a28, c28, rfl, h⟩
  rw [show pruneB 5 [vv 1 0, vv 2 0] = [vv 1 0, vv 2 0] from rfl] at h ⊢
  have h28 := hid h
  clear h
  clear h27
  go_wp2_with fail
  refine ((h28.out.alloc _).own (of_new _ [1, 0, 2, 0] (by decide) 4 rfl _ (by simp))).mono ?_
  rintro e w29 ⟨a29, c29, rfl, h⟩
  rw [show ofB [1, 0, 2, 0] = [vv 1 0, vv 2 0] from rfl] at h ⊢
  have h29 := hid h
  clear h
  clear h28
  go_wp2_with fail
  refine (h29.out.read (same_c _ _ _ _ _ h29.out.drop.lv h29.out.lv)).mono ?_
  rintro e w30 ⟨rfl, h⟩
  rw [(sameB_iff _ _).2 rfl]
  have h30 := hid h
  clear h
  clear h29
  go_wp2
  go_ret
  exact ⟨rfl, h30.out.m⟩

end Go.Proofs.Ytmdomihpohekiaa
