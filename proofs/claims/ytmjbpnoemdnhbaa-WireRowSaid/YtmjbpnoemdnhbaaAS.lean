/- ask: an item is asked of a reader. -/
import Derived.Test.YtmjbpnoemdnhbaaQ2
import Derived.Deep.RegionHeld3
namespace Go.Proofs.Ytmjbpnoemdnhbaa
set_option linter.unusedVariables false
set_option linter.unusedSimpArgs false
open Go.RowKit

set_option maxRecDepth 100000 in
set_option maxHeartbeats 1000000 in
theorem ask_c (x : Item) (b : Nat) (st : Option ByteArray) (w : World) (h : Rd 51 w b st) :
    Calls Try.prog 25 #[.pointer (some ⟨b, 0, none⟩), .agg #[.bool x.isT, .string x.s, .int .u64 x.n]] w fun e w' => e = .returned (.bool (askOf x st).1) ∧ Rd 51 w' b (askOf x st).2 ∧ Mod [b] w w' := by
  have hl := h.1.lt
  have hq : Hid (∀ X, Mod [b] (w.alloc (.cells #[.bool x.isT, .string x.s, .int .u64 x.n] 25)) X → X.cell? ⟨w.heap.size, 0, none⟩ = some (.bool x.isT) ∧ X.cell? ⟨w.heap.size, 1, none⟩ = some (.string x.s) ∧ X.cell? ⟨w.heap.size, 2, none⟩ = some (.int .u64 x.n)) := by
    intro X hm
    have := hm.blk (Blk.new w _ _) (by simp; omega)
    exact ⟨this.cell 0, this.cell 1, this.cell 2⟩
  have H := hid (h.mod ((Mod.refl [] w).alloc (.cells #[.bool x.isT, .string x.s, .int .u64 x.n] 25)) (by simp))
  have M0 := hid ((Mod.refl [] w).alloc (.cells #[.bool x.isT, .string x.s, .int .u64 x.n] 25))
  clear h
  cases hT : x.isT
  · have hA : Hid (askOf x st = (decide ((numOf st).1 = x.n), (numOf st).2)) := by show _ = _; unfold askOf; rw [hT]; rfl
    rw [hT] at hq H M0
    rw [hA.out]
    clear hA hT
    go_enter Try.func25, Try.ntmps25
    go_upto_region 3 with (fail)
    generalize w.alloc (.cells #[.bool false, .string x.s, .int .u64 x.n] 25) = W at *
    go_region_held3 (fun X => Mod [b] W X ∧ X.cell? ⟨w.heap.size, 2, none⟩ = some (.int .u64 x.n))
      (first
        | exact ⟨(Mod.refl [b] W).drew, (hq.out _ (Mod.refl [b] W).drew).2.2⟩
        | assumption
        | exact ⟨Mod.tr (And.left ‹Mod [b] W _ ∧ _›) hm, (hq.out _ (Mod.tr (And.left ‹Mod [b] W _ ∧ _›) hm)).2.2⟩)
      (first | (go_at_call 18; refine (num_c _ b st _ (H.out.mod (Mod.refl [] W).drew (by simp))).mono ?_; rintro e w1 ⟨rfl, hr, hm⟩))
    have hr' := hid hr
    have hm' := hid hm
    clear hr hm
    go_wp2
    go_ret
    refine ⟨ret_bool ?_, hr'.out, (M0.out.trans (Mod.tr (Mod.refl [b] W).drew hm'.out) (m := [b]) (by simp) (by intro x hx _; exact hx))⟩
    rw [Bool.eq_iff_iff]
    simp
    try omega
  · have hA : Hid (askOf x st = (decide ((textOf st).1 = cut x.s 200), (textOf st).2)) := by show _ = _; unfold askOf; rw [hT]; rfl
    have hX := text_i x
    rw [hT] at hq H M0 hX
    have hX' := hid hX
    rw [hA.out]
    clear hA hT hX
    go_enter Try.func25, Try.ntmps25
    go_upto_region 2 with (fail)
    generalize w.alloc (.cells #[.bool true, .string x.s, .int .u64 x.n] 25) = W at *
    go_region_held3 (fun X => Mod [b] W X ∧ X.cell? ⟨w.heap.size, 0, none⟩ = some (.bool true) ∧ X.cell? ⟨w.heap.size, 1, none⟩ = some (.string x.s) ∧ X.cell? ⟨w.heap.size, 2, none⟩ = some (.int .u64 x.n))
      (first
        | exact ⟨(Mod.refl [b] W).drew, (hq.out _ (Mod.refl [b] W).drew)⟩
        | assumption
        | exact ⟨Mod.tr (And.left ‹Mod [b] W _ ∧ _›) hm, (hq.out _ (Mod.tr (And.left ‹Mod [b] W _ ∧ _›) hm))⟩
        | exact ⟨Mod.tr (And.left ‹Mod [b] W _ ∧ _›) (hm2.mono (by simp)), (hq.out _ (Mod.tr (And.left ‹Mod [b] W _ ∧ _›) (hm2.mono (by simp))))⟩)
      (first
        | (go_at_call 16; refine (text_c _ b st _ (H.out.mod (Mod.refl [] W).drew (by simp))).mono ?_; rintro e w1 ⟨rfl, hr, hm⟩)
        | (go_at_call 12; refine (hX'.out _).mono ?_; rintro e w2 ⟨rfl, hm2⟩))
    have hr' := hid (hr.mod hm2 (by simp))
    have hm' := hid (hm.tr (hm2.mono (by simp)))
    clear hr hm hm2
    go_wp2
    go_ret
    refine ⟨ret_bool ?_, hr'.out, (M0.out.trans (Mod.tr (Mod.refl [b] W).drew hm'.out) (m := [b]) (by simp) (by intro x hx _; exact hx))⟩
    rw [Bool.eq_iff_iff]
    simp
    exact ⟨fun h => ba_ext (by simpa [ByteArray.toList_eq] using h), fun h => by rw [h]⟩

end Go.Proofs.Ytmjbpnoemdnhbaa
