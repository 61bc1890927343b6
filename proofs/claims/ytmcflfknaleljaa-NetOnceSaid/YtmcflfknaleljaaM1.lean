/- The reference's bag: Put. -/
import Derived.Test.YtmcflfknaleljaaN1
namespace Go.Proofs.Ytmcflfknaleljaa
set_option linter.unusedVariables false
set_option linter.unusedSimpArgs false
set_option linter.unusedSectionVars false
open Go.RowKit

set_option maxRecDepth 100000 in
set_option maxHeartbeats 1000000 in
theorem rput_no (T : TypeId) (w : World) (b : Nat) (fs : List Fr) (L : List Nat) (f : Fr) (h : NetAt T w b fs L) (hb : f.dst < 0 ∨ 1 < f.dst ∨ f.s.toList.isEmpty = true) :
    Calls Try.prog 15 #[.pointer (some ⟨b, 0, none⟩), .agg #[.int .i64 f.dst, .string f.s]] w (NetSays T w b L (.int .i64 2) fs) := by
  have H := hid h
  clear h
  obtain ⟨dst, s⟩ := f
  simp only at hb ⊢
  rcases hb with hb | hb | hb
  · go_enter Try.func15, Try.ntmps15
    go_wp2
    go_ret
    exact NetSays.same H.out ((Mod.refl _ _).alloc _)
  · have h2 : 0 ≤ dst := by omega
    go_enter Try.func15, Try.ntmps15
    go_wp2
    go_ret
    exact NetSays.same H.out ((Mod.refl _ _).alloc _)
  · by_cases h1 : dst < 0
    · go_enter Try.func15, Try.ntmps15
      go_wp2
      go_ret
      exact NetSays.same H.out ((Mod.refl _ _).alloc _)
    · by_cases h2 : 1 < dst
      · go_enter Try.func15, Try.ntmps15
        go_wp2
        go_ret
        exact NetSays.same H.out ((Mod.refl _ _).alloc _)
      · go_enter Try.func15, Try.ntmps15
        go_wp2
        go_ret
        exact NetSays.same H.out ((Mod.refl _ _).alloc _)

set_option maxRecDepth 100000 in
set_option maxHeartbeats 1000000 in
theorem rput_full (T : TypeId) (w : World) (b : Nat) (fs : List Fr) (L : List Nat) (f : Fr) (h : NetAt T w b fs L) (hb : ¬ (f.dst < 0 ∨ 1 < f.dst ∨ f.s.toList.isEmpty = true)) (hf : 400 ≤ fs.length) :
    Calls Try.prog 15 #[.pointer (some ⟨b, 0, none⟩), .agg #[.int .i64 f.dst, .string f.s]] w (NetSays T w b L (.int .i64 7) fs) := by
  have H := hid h
  obtain ⟨v, R, h1, h2, rfl, h3⟩ := h
  obtain ⟨a, cap, rfl, hn1, hn2, _⟩ := h2.val
  have hlt := h1.lt
  have hc := h1.cell 0
  simp at hc
  have he : f.s.toList.isEmpty = false := by
    cases hx : f.s.toList.isEmpty
    · rfl
    · exact absurd (Or.inr (Or.inr hx)) hb
  have hd1 : 0 ≤ f.dst := by omega
  have hd2 : f.dst ≤ 1 := by omega
  clear hb h1 h2 h3
  go_enter Try.func15, Try.ntmps15
  go_wp2
  go_ret
  exact NetSays.same H.out ((Mod.refl _ _).alloc _)

set_option maxRecDepth 100000 in
set_option maxHeartbeats 1000000 in
theorem rput_yes (T : TypeId) (w : World) (b : Nat) (fs : List Fr) (L : List Nat) (f : Fr) (h : NetAt T w b fs L) (hb : ¬ (f.dst < 0 ∨ 1 < f.dst ∨ f.s.toList.isEmpty = true)) (hf : fs.length < 400) :
    Calls Try.prog 15 #[.pointer (some ⟨b, 0, none⟩), .agg #[.int .i64 f.dst, .string f.s]] w (NetSays T w b L (.int .i64 0) (fs ++ [f])) := by
  obtain ⟨v, R, h1, h2, rfl, h3⟩ := h
  obtain ⟨a, cap, hv, hn1, hn2, _⟩ := h2.val
  have hlt := h1.lt
  have he : f.s.toList.isEmpty = false := by
    cases hx : f.s.toList.isEmpty
    · rfl
    · exact absurd (Or.inr (Or.inr hx)) hb
  have hd1 : 0 ≤ f.dst := by omega
  have hd2 : f.dst ≤ 1 := by omega
  clear hb
  subst hv
  have hc := h1.cell 0
  simp at hc
  have h1' := hid h1
  have h2' := hid h2
  have h3' := hid h3
  clear h1 h2 h3
  go_enter Try.func15, Try.ntmps15
  go_upto_region 5 with (fail)
  have hW := (Mod.refl [] w).alloc (.cells #[.int .i64 f.dst, .string f.s] 30)
  have hbox := Blk.new w #[.int .i64 f.dst, .string f.s] 30
  have hsz : (w.alloc (.cells #[.int .i64 f.dst, .string f.s] 30)).heap.size = w.heap.size + 1 := by simp
  obtain ⟨k, hk⟩ : ∃ k, w.heap.size = k := ⟨_, rfl⟩
  generalize w.alloc (.cells #[.int .i64 f.dst, .string f.s] 30) = W at *
  rw [hk] at hbox hsz hlt ⊢
  have hk' := hid hk
  clear hk
  have hx0 := hbox.cell 0
  have hx1 := hbox.cell 1
  simp at hx0 hx1
  have hW' := hid hW
  have hc2 : W.cell? ⟨b, 0, none⟩ = some (.slice a fs.length cap) := hW.cellSome hc (by simp)
  have hfr := (hW.blk h1'.out (by simp)).free 0
  have hsz' := hid hsz
  have hlt2 : b < W.heap.size := by omega
  clear hsz hW hc
  have hO : Hid (∀ X, Mod [] W X → Own X 30 2 (.slice a fs.length cap) fs.length (frCells fs) R) := fun X hX => (h2'.out.mod hW'.out (by simp)).mod hX (by simp)
  have hR : Hid (Rdl (W.drew.alloc (.cells #[.int .i64 f.dst, .string f.s] 30)) 2 (.slice (some ⟨W.heap.size, 0, none⟩) 1 1) 1 (frCells [f])) := by
    refine ⟨rfl, Or.inr ⟨W.heap.size, 0, 1, rfl, fun j hj => ?_⟩⟩
    have hn : Blk (W.drew.alloc (.cells #[.int .i64 f.dst, .string f.s] 30)) W.heap.size #[.int .i64 f.dst, .string f.s] 30 := Blk.new W.drew _ _
    rw [hn.cell, Nat.zero_add]
    rcases (by omega : j = 0 ∨ j = 1) with rfl | rfl <;> rfl
  have hfacts : Hid (∀ (w1 : World), Mod R (W.drew.alloc (.cells #[.int .i64 f.dst, .string f.s] 30)) w1 → w1.cell? ⟨b, 0, none⟩ = some (.slice a fs.length cap) ∧ w1.frozen? ⟨b, 0, none⟩ = false ∧ b < w1.heap.size) := by
    intro w1 hm
    have hbk := hm.blk ((hW'.out.blk h1'.out (by simp)).drew.alloc (.cells #[.int .i64 f.dst, .string f.s] 30)) h3'.out
    exact ⟨hbk.cell 0, hbk.free 0, hbk.lt⟩
  go_region_law (first | (refine step_append_rdl rfl (.tmp 28) (.tmp 30) 26 30 rfl Try.underlying26 elem_frame rfl (by decide) rfl (hO.out _ ((Mod.refl _ _).drew.alloc _)) rfl hR.out (frCells_one _) (by omega) (by omega) ?_; intro v1 w1 L1 ho hm1 hf1; have hz := hfacts.out w1 hm1.out; obtain ⟨z1, z2, z3⟩ := hz; obtain ⟨a1, c1, hv1, _⟩ := ho.out.val; subst hv1))
  all_goals
    go_wp2
    go_ret
    exact put_end h1'.out h3'.out h2'.out.lt hW'.out ((Mod.refl _ _).drew.alloc _) hm1.out ho.out hf1.out _

end Go.Proofs.Ytmcflfknaleljaa
