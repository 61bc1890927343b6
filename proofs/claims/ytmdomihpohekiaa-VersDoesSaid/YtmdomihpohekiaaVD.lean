/- works: the chapter's rows. -/
import Derived.Test.YtmdomihpohekiaaVC
namespace Go.Proofs.Ytmdomihpohekiaa
set_option linter.unusedVariables false
set_option linter.unusedSimpArgs false
set_option linter.unusedSectionVars false
open Go.RowKit

def vv (a b : Nat) : Vr := ⟨a, b, false, ⟨#[]⟩, false⟩
theorem of_new (w : World) (ns : List Nat) (hl : ns.length ≤ 1000) (n : Nat) (hn : ns.length = n) (b : Nat) (hb : w.heap.size = b) : Calls Try.prog 28 #[.slice (some ⟨b, 0, none⟩) n n] (w.alloc (.cells (ns.map fun n : Nat => Value.int .u64 n).toArray 23)) (OwnSays (w.alloc (.cells (ns.map fun n : Nat => Value.int .u64 n).toArray 23)) (ofB ns)) := by
  subst hb
  refine of_c _ _ ns n n hn (by omega) fun i hi => ?_
  rw [(Blk.new w _ _).cell]
  simp [List.getElem?_eq_getElem (show i < ns.length by omega)]

set_option maxRecDepth 100000 in
set_option maxHeartbeats 8000000 in
theorem works_c (w : World) : Calls Try.prog 25 #[] w fun e w' => e = .returned (.bool true) ∧ Mod [] w w' := by
  go_enter Try.func25, Try.ntmps25
  go_wp2_with fail
  refine (((Top.start w).alloc _).own (of_new _ [2, 5, 7, 0] (by decide) 4 rfl _ (by simp))).mono ?_
  rintro e w1 ⟨a1, c1, rfl, h⟩
  rw [show ofB [2, 5, 7, 0] = [vv 2 5, vv 7 0] from rfl] at h ⊢
  have h1 := hid h
  clear h
  go_wp2_with fail
  refine (h1.out.seen (visible_c _ _ _ 6 h1.out.lv)).mono ?_
  rintro e w2 ⟨rfl, h⟩
  rw [show seenB (visP 6) [vv 2 5, vv 7 0] = some (vv 2 5) from rfl]
  have h2 := hid (h.box (vrC (vv 2 5)).toArray 25).swap
  clear h
  simp only [Option.getD_some, Option.getD_none, Option.isSome_some, Option.isSome_none, vrV, vv, v0]
  clear h1
  go_wp2_with fail
  refine (h2.out.seen (visible_c _ _ _ 7 h2.out.lv)).mono ?_
  rintro e w3 ⟨rfl, h⟩
  rw [show seenB (visP 7) [vv 2 5, vv 7 0] = some (vv 7 0) from rfl]
  have h3 := hid (h.box (vrC (vv 7 0)).toArray 25).swap
  clear h
  simp only [Option.getD_some, Option.getD_none, Option.isSome_some, Option.isSome_none, vrV, vv, v0]
  clear h2
  go_wp2_with fail
  refine ((h3.out.alloc _).own (of_new _ [2, 5] (by decide) 2 rfl _ (by simp))).mono ?_
  rintro e w4 ⟨a4, c4, rfl, h⟩
  rw [show ofB [2, 5] = [vv 2 5] from rfl] at h ⊢
  have h4 := hid h
  clear h
  clear h3
  go_wp2_with fail
  refine (h4.out.seen (visible_c _ _ _ 1 h4.out.lv)).mono ?_
  rintro e w5 ⟨rfl, h⟩
  rw [show seenB (visP 1) [vv 2 5] = none from rfl]
  have h5 := hid (h.drop.alloc (.cells (vrC (v0)).toArray 25))
  clear h
  simp only [Option.getD_some, Option.getD_none, Option.isSome_some, Option.isSome_none, vrV, vv, v0]
  clear h4
  go_wp2_with fail
  refine (h5.out.seen (newest_c _ _ _  h5.out.lv)).mono ?_
  rintro e w6 ⟨rfl, h⟩
  rw [show seenB (fun _ => true) [vv 2 5, vv 7 0] = some (vv 7 0) from rfl]
  have h6 := hid (h.box (vrC (vv 7 0)).toArray 25).swap
  clear h
  simp only [Option.getD_some, Option.getD_none, Option.isSome_some, Option.isSome_none, vrV, vv, v0]
  clear h5
  go_wp2_with fail
  refine (h6.out.seen (below_c _ _ _ 7 h6.out.lv)).mono ?_
  rintro e w7 ⟨rfl, h⟩
  rw [show seenB (belP 7) [vv 2 5, vv 7 0] = some (vv 2 5) from rfl]
  have h7 := hid (h.box (vrC (vv 2 5)).toArray 25).swap
  clear h
  simp only [Option.getD_some, Option.getD_none, Option.isSome_some, Option.isSome_none, vrV, vv, v0]
  clear h6
  go_wp2_with fail
  refine ((h7.out.alloc _).own (of_new _ [2, 5] (by decide) 2 rfl _ (by simp))).mono ?_
  rintro e w8 ⟨a8, c8, rfl, h⟩
  rw [show ofB [2, 5] = [vv 2 5] from rfl] at h ⊢
  have h8 := hid h
  clear h
  clear h7
  go_wp2_with fail
  refine (h8.out.put (put_c _ _ _ (vv 7 0) h8.out.lv (by decide) (by decide))).mono ?_
  rintro e w9 ⟨a9, c9, rfl, h⟩
  rw [show putL [vv 2 5] (vv 7 0) = [vv 2 5, vv 7 0] from rfl] at h ⊢
  rw [show putE [vv 2 5] (vv 7 0) = 0 from rfl]
  have h9 := hid h.drop2
  clear h
  clear h8
  go_wp2_with fail
  refine (h9.out.put (put_c _ _ _ (⟨7, 0, false, ⟨#[120]⟩, false⟩) h9.out.drop.lv (by decide) (by decide))).mono ?_
  rintro e w10 ⟨a10, c10, rfl, h⟩
  rw [show putL [vv 2 5, vv 7 0] (⟨7, 0, false, ⟨#[120]⟩, false⟩) = [vv 2 5, ⟨7, 0, false, ⟨#[120]⟩, false⟩] from rfl] at h ⊢
  rw [show putE [vv 2 5, vv 7 0] (⟨7, 0, false, ⟨#[120]⟩, false⟩) = 0 from rfl]
  have h10 := hid h
  clear h
  clear h9
  go_wp2_with fail
  refine (h10.out.put (put_c _ _ _ (vv 6 0) h10.out.drop.drop.lv (by decide) (by decide))).mono ?_
  rintro e w11 ⟨a11, c11, rfl, h⟩
  rw [show putL [vv 2 5, vv 7 0] (vv 6 0) = [vv 2 5, vv 7 0] from rfl] at h ⊢
  rw [show putE [vv 2 5, vv 7 0] (vv 6 0) = 14 from rfl]
  have h11 := hid h.drop
  clear h
  clear h10
  obtain ⟨bn, on, hn, _⟩ := h11.out.lv.at (i := 1) rfl
  subst hn
  have hn2 := h11.out.lv.at (i := 1) rfl
  simp only [Option.some.injEq, Addr.mk.injEq, and_true] at hn2
  obtain ⟨_, _, ⟨rfl, rfl⟩, _, _, _, n3, _⟩ := hn2
  replace n3 : w11.cell? ⟨bn, on + 5 + 3, none⟩ = some (.string ⟨#[120]⟩) := n3
  have bH : w11.cell? ⟨w7.heap.size, 0, none⟩ = some (.int .u64 2) := h11.out.drop.drop.drop.get.cell 0
  have bF : w11.cell? ⟨w6.heap.size, 0, none⟩ = some (.int .u64 7) := h11.out.drop.drop.drop.drop.get.cell 0
  have bC : w11.cell? ⟨w3.heap.size, 0, none⟩ = some (.int .u64 7) := h11.out.drop.drop.drop.drop.drop.get.cell 0
  have bA : w11.cell? ⟨w2.heap.size, 0, none⟩ = some (.int .u64 2) := h11.out.drop.drop.drop.drop.drop.drop.get.cell 0
  go_wp2_with fail
  refine (h11.out.read (same_c _ _ _ _ _ h11.out.drop.lv h11.out.drop.drop.lv)).mono ?_
  rintro e w12 ⟨rfl, h⟩
  rw [(sameB_iff _ _).2 rfl]
  have h12 := hid h
  clear h
  have m3 := h12.out.lv.at (i := 1) rfl
  simp only [Option.some.injEq, Addr.mk.injEq, and_true] at m3
  obtain ⟨_, _, ⟨rfl, rfl⟩, _, _, _, m3, _⟩ := m3
  replace m3 : w12.cell? ⟨bn, on + 5 + 3, none⟩ = some (.string ⟨#[120]⟩) := m3
  clear h11 bH bF bC bA n3
  go_wp2_with fail
  refine ((h12.out.alloc _).own (of_new _ [2, 5, 7, 9] (by decide) 4 rfl _ (by simp))).mono ?_
  rintro e w13 ⟨a13, c13, rfl, h⟩
  rw [show ofB [2, 5, 7, 9] = [vv 2 5, vv 7 9] from rfl] at h ⊢
  have h13 := hid h
  clear h
  clear h12
  go_wp2_with fail
  refine (h13.out.own (acked_c _ _ _ 9 true h13.out.lv (by decide))).mono ?_
  rintro e w14 ⟨a14, c14, rfl, h⟩
  rw [show turnedB (ackF 9 true) [vv 2 5, vv 7 9] = [vv 2 5, ⟨7, 9, false, ⟨#[]⟩, true⟩] from rfl] at h ⊢
  have h14 := hid h.drop2.drop2.drop2
  clear h
  clear h13
  go_wp2_with fail
  refine (h14.out.own (cut_c _ _ _ 7 h14.out.drop.lv (by decide))).mono ?_
  rintro e w15 ⟨a15, c15, rfl, h⟩
  rw [show withoutB (tsP 7) [vv 2 5, vv 7 0] = [vv 2 5] from rfl] at h ⊢
  have h15 := hid h
  clear h
  clear h14
  go_wp2_with fail
  refine ((h15.out.alloc _).own (of_new _ [2, 5] (by decide) 2 rfl _ (by simp))).mono ?_
  rintro e w16 ⟨a16, c16, rfl, h⟩
  rw [show ofB [2, 5] = [vv 2 5] from rfl] at h ⊢
  have h16 := hid h
  clear h
  clear h15
  go_wp2_with fail
  refine (h16.out.read (same_c _ _ _ _ _ h16.out.drop.lv h16.out.lv)).mono ?_
  rintro e w17 ⟨rfl, h⟩
  rw [(sameB_iff _ _).2 rfl]
  have h17 := hid h.drop.drop
  clear h
  clear h16
  go_wp2_with fail
  refine (h17.out.own (logged_c _ _ _ 7 9 h17.out.drop.lv (by decide))).mono ?_
  rintro e w18 ⟨a18, c18, rfl, h⟩
  rw [show turnedB (logF 7 9) [vv 2 5, vv 7 0] = [vv 2 5, vv 7 9] from rfl] at h ⊢
  have h18 := hid h
  clear h
  clear h17
  go_wp2_with fail
  refine ((h18.out.alloc _).own (of_new _ [2, 5, 7, 9] (by decide) 4 rfl _ (by simp))).mono ?_
  rintro e w19 ⟨a19, c19, rfl, h⟩
  rw [show ofB [2, 5, 7, 9] = [vv 2 5, vv 7 9] from rfl] at h ⊢
  have h19 := hid h
  clear h
  clear h18
  go_wp2_with fail
  refine (h19.out.read (same_c _ _ _ _ _ h19.out.drop.lv h19.out.lv)).mono ?_
  rintro e w20 ⟨rfl, h⟩
  rw [(sameB_iff _ _).2 rfl]
  have h20 := hid h.drop.drop
  clear h
  clear h19
  obtain ⟨bq, oq, hq, _⟩ := h20.out.lv.at (i := 0) rfl
  subst hq
  have hq0 := h20.out.lv.at (i := 0) rfl
  simp only [Option.some.injEq, Addr.mk.injEq, and_true] at hq0
  obtain ⟨_, _, ⟨rfl, rfl⟩, _, _, _, _, q0⟩ := hq0
  have hq1 := h20.out.lv.at (i := 1) rfl
  simp only [Option.some.injEq, Addr.mk.injEq, and_true] at hq1
  obtain ⟨_, _, ⟨rfl, rfl⟩, _, _, _, _, q1⟩ := hq1
  replace q0 : w20.cell? ⟨bq, oq + 4, none⟩ = some (.bool false) := by simpa [vv] using q0
  replace q1 : w20.cell? ⟨bq, oq + 5 + 4, none⟩ = some (.bool true) := q1
  go_wp2_with fail
  refine ((h20.out.alloc _).own (of_new _ [1, 2, 3, 4, 5, 0, 8, 9] (by decide) 8 rfl _ (by simp))).mono ?_
  rintro e w21 ⟨a21, c21, rfl, h⟩
  rw [show ofB [1, 2, 3, 4, 5, 0, 8, 9] = [vv 1 2, vv 3 4, vv 5 0, vv 8 9] from rfl] at h ⊢
  have h21 := hid h
  clear h
  clear h20
  go_wp2_with fail
  refine (h21.out.own (prune_c _ _ _ 6 h21.out.lv (by decide))).mono ?_
  rintro e w22 ⟨a22, c22, rfl, h⟩
  rw [show pruneB 6 [vv 1 2, vv 3 4, vv 5 0, vv 8 9] = [vv 3 4, vv 5 0, vv 8 9] from rfl] at h ⊢
  have h22 := hid h
  clear h
  clear h21
  go_wp2_with fail
  refine ((h22.out.alloc _).own (of_new _ [3, 4, 5, 0, 8, 9] (by decide) 6 rfl _ (by simp))).mono ?_
  rintro e w23 ⟨a23, c23, rfl, h⟩
  rw [show ofB [3, 4, 5, 0, 8, 9] = [vv 3 4, vv 5 0, vv 8 9] from rfl] at h ⊢
  have h23 := hid h
  clear h
  clear h22
  go_wp2_with fail
  refine (h23.out.read (same_c _ _ _ _ _ h23.out.drop.lv h23.out.lv)).mono ?_
  rintro e w24 ⟨rfl, h⟩
  rw [(sameB_iff _ _).2 rfl]
  have h24 := hid h
  clear h
  clear h23
  go_wp2_with fail
  refine ((h24.out.alloc _).own (of_new _ [1, 2, 3, 4] (by decide) 4 rfl _ (by simp))).mono ?_
  rintro e w25 ⟨a25, c25, rfl, h⟩
  rw [show ofB [1, 2, 3, 4] = [vv 1 2, vv 3 4] from rfl] at h ⊢
  have h25 := hid h
  clear h
  clear h24
  go_wp2_with fail
  refine (h25.out.own (prune_c _ _ _ 0 h25.out.lv (by decide))).mono ?_
  rintro e w26 ⟨a26, c26, rfl, h⟩
  rw [show pruneB 0 [vv 1 2, vv 3 4] = [vv 1 2, vv 3 4] from rfl] at h ⊢
  have h26 := hid h
  clear h
  clear h25
  go_wp2_with fail
  refine ((h26.out.alloc _).own (of_new _ [1, 2, 3, 4] (by decide) 4 rfl _ (by simp))).mono ?_
  rintro e w27 ⟨a27, c27, rfl, h⟩
  rw [show ofB [1, 2, 3, 4] = [vv 1 2, vv 3 4] from rfl] at h ⊢
  have h27 := hid h
  clear h
  clear h26
  go_wp2_with fail
  refine (h27.out.read (same_c _ _ _ _ _ h27.out.drop.lv h27.out.lv)).mono ?_
  rintro e w28 ⟨rfl, h⟩
  rw [(sameB_iff _ _).2 rfl]
  have h28 := hid h
  clear h
  clear h27
  go_wp2
  go_ret
  exact ⟨rfl, h28.out.m⟩

end Go.Proofs.Ytmdomihpohekiaa
