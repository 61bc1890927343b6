/- The bag: At. -/
import Derived.Test.YtmcflfknaleljaaN1
namespace Go.Proofs.Ytmcflfknaleljaa
set_option linter.unusedVariables false
set_option linter.unusedSimpArgs false
set_option linter.unusedSectionVars false
open Go.RowKit

/-- The cells of the k-th frame, where the row is read. -/
theorem row_at {w : World} {v : Value} {fs : List Fr} {M : List Nat} {a : Option Addr} {cap : Nat} (h : Own w 30 2 v fs.length (frCells fs) M) (hv : v = .slice a fs.length cap) {k : Nat} {f : Fr} (hk : fs[k]? = some f) :
    ∃ g, a = some ⟨g, 0, none⟩ ∧ M = [g] ∧ w.cell? ⟨g, k * 2, none⟩ = some (.int .i64 f.dst) ∧ w.cell? ⟨g, k * 2 + 1, none⟩ = some (.string f.s) := by
  have hkl : k < fs.length := by
    rcases Nat.lt_or_ge k fs.length with h' | h'
    · exact h'
    · rw [List.getElem?_eq_none h'] at hk; cases hk
  obtain ⟨a', cap', hv', _, _, hc⟩ := h.val
  rw [hv] at hv'
  simp only [Value.slice.injEq, true_and] at hv'
  obtain ⟨rfl, rfl⟩ := hv'
  obtain ⟨g, rfl, rfl, hcell⟩ := hc (by omega)
  obtain ⟨h0, h1⟩ := frCells_get0 fs k f hk
  exact ⟨g, rfl, rfl, by rw [hcell _ (by omega)]; exact h0, by rw [hcell _ (by omega)]; exact h1⟩

set_option maxRecDepth 100000 in
theorem setf_c (w : World) (c : Nat) (f : Fr) (x y : Value) (h : Blk w c #[x, y] 30) :
    Calls Try.prog 24 #[.agg #[.int .i64 f.dst, .string f.s], .pointer (some ⟨c, 0, none⟩)] w fun e w' => e = .returned (.int .i64 0) ∧ Blk w' c #[.int .i64 f.dst, .string f.s] 30 ∧ Mod [c] w w' := by
  have h0 := h.cell 0
  have h1 := h.cell 1
  have f0 := h.free 0
  have f1 := h.free 1
  have hl := h.lt
  simp at h0 h1
  have H := hid h
  clear h
  go_enter Try.func24, Try.ntmps24
  go_wp2
  go_ret
  exact ⟨rfl, ((H.out.set 0 _).set 1 _).alloc _, (((Mod.refl _ _).setCell (by simp) _).setCell (by simp) _).alloc _⟩

set_option maxRecDepth 100000 in
set_option maxHeartbeats 1000000 in
theorem at_at_yes (w : World) (c k : Nat) (f : Fr) (x y : Value) (h : Blk w c #[x, y] 30) (g len cap : Nat) (hk : k < len) (hlen : len ≤ 9223372036854775807) (h0 : w.cell? ⟨g, k * 2, none⟩ = some (.int .i64 f.dst)) (h1 : w.cell? ⟨g, k * 2 + 1, none⟩ = some (.string f.s)) :
    Calls Try.prog 21 #[.slice (some ⟨g, 0, none⟩) len cap, .int .i64 k, .func (.func 24) #[] #[.pointer (some ⟨c, 0, none⟩)]] w fun e w' => e = .returned (.int .i64 0) ∧ Blk w' c #[.int .i64 f.dst, .string f.s] 30 ∧ Mod [c] w w' := by
  have H := hid h
  clear h
  go_enter Try.func21, Try.ntmps21
  go_wp2_with fail
  refine (setf_c _ c f x y H.out).mono ?_
  rintro e w1 ⟨rfl, hb, hm⟩
  go_wp2
  go_ret
  exact ⟨rfl, hb, hm⟩

set_option maxRecDepth 100000 in
set_option maxHeartbeats 1000000 in
theorem at_no (w : World) (i : Int) (a : Option Addr) (len cap : Nat) (fv : Value) (hi : i < 0 ∨ (len : Int) ≤ i) (hi1 : -9223372036854775808 ≤ i) (hi2 : i ≤ 9223372036854775807) (hlen : len ≤ 9223372036854775807) :
    Calls Try.prog 21 #[.slice a len cap, .int .i64 i, fv] w fun e w' => e = .returned (.int .i64 5) ∧ w = w' := by
  rcases hi with hi | hi
  · go_enter Try.func21, Try.ntmps21
    go_wp2
    go_ret
    exact ⟨rfl, rfl⟩
  · have h0 : 0 ≤ i := by omega
    go_enter Try.func21, Try.ntmps21
    go_wp2
    go_ret
    exact ⟨rfl, rfl⟩

set_option maxRecDepth 100000 in
set_option maxHeartbeats 1000000 in
theorem at_yes (T : TypeId) (w : World) (b : Nat) (fs : List Fr) (L : List Nat) (k : Nat) (f : Fr) (h : NetAt T w b fs L) (hk : fs[k]? = some f) :
    Calls Try.prog 16 #[.pointer (some ⟨b, 0, none⟩), .int .i64 k] w fun e w' => e = .returned (.tuple #[.agg #[.int .i64 f.dst, .string f.s], .int .i64 0]) ∧ Mod [] w w' := by
  have hkl : k < fs.length := by
    rcases Nat.lt_or_ge k fs.length with h' | h'
    · exact h'
    · rw [List.getElem?_eq_none h'] at hk; cases hk
  obtain ⟨v, R, h1, h2, rfl, h3⟩ := h
  have hlen := h2.len
  obtain ⟨a, cap, hv, hn1, hn2, _⟩ := h2.val
  obtain ⟨g, rfl, rfl, hc0, hc1⟩ := row_at h2 hv hk
  subst hv
  have hc := h1.cell 0
  have hl := h1.lt
  have hg := lt_of_cell hc0
  simp at hc hg
  have hk' := hid hk
  clear hk h1 h2 h3
  go_enter Try.func16, Try.ntmps16
  go_wp2_with fail
  refine (at_at_yes _ w.heap.size k f _ _ (Blk.new w _ _) g fs.length cap hkl hlen ?_ ?_).mono ?_
  · exact ((Mod.refl [] w).alloc _).cellSome hc0 (by simp)
  · exact ((Mod.refl [] w).alloc _).cellSome hc1 (by simp)
  rintro e w1 ⟨rfl, hb, hm⟩
  have hb0 := hb.cell 0
  have hb1 := hb.cell 1
  have hf0 := hb.free 0
  have hf1 := hb.free 1
  simp at hb0 hb1
  have hs0 := hb.setSame 0 (.int .i64 f.dst) rfl
  have hs1 := hb.setSame 1 (.string f.s) rfl
  have hm' := hid (((Mod.refl [] w).alloc (.cells #[.int .i64 0, .string ⟨#[]⟩] 30)).trans hm (m := []) (by simp) (by intro x hx hlt; simp at hx; omega))
  clear hm hb
  go_wp2
  exact bodyPost_ret (v := .tuple #[.agg #[.int .i64 f.dst, .string f.s], .int .i64 0]) (by simp [results, Try.results16, go_sem, hb0, hb1]) rfl ⟨rfl, hm'.out⟩

theorem at_out (T : TypeId) (w : World) (b : Nat) (fs : List Fr) (L : List Nat) (i : Int) (h : NetAt T w b fs L) (hi : i < 0 ∨ (fs.length : Int) ≤ i) (hi1 : -9223372036854775808 ≤ i) (hi2 : i ≤ 9223372036854775807) :
    Calls Try.prog 16 #[.pointer (some ⟨b, 0, none⟩), .int .i64 i] w fun e w' => e = .returned (.tuple #[.agg #[.int .i64 0, .string ⟨#[]⟩], .int .i64 5]) ∧ Mod [] w w' := by
  obtain ⟨v, R, h1, h2, rfl, h3⟩ := h
  have hlen := h2.len
  obtain ⟨a, cap, hv, hn1, hn2, _⟩ := h2.val
  subst hv
  have hc := h1.cell 0
  have hl := h1.lt
  simp at hc
  clear h1 h2 h3
  have hi' := hid hi
  clear hi
  go_enter Try.func16, Try.ntmps16
  go_wp2_with fail
  refine (at_no _ i a fs.length cap _ hi'.out hi1 hi2 hlen).mono ?_
  rintro e w1 ⟨rfl, rfl⟩
  go_wp2
  go_returns
  exact ⟨rfl, (Mod.refl _ _).alloc _⟩

end Go.Proofs.Ytmcflfknaleljaa
