/- own. -/
import Derived.Test.YtmdomihpohekiaaV1
namespace Go.Proofs.Ytmdomihpohekiaa
set_option linter.unusedVariables false
set_option linter.unusedSimpArgs false
set_option linter.unusedSectionVars false
open Go.RowKit

theorem elem_ver : (Try.prog.info? 25).map (fun i => (i.zero, i.size, i.bytes)) = some (some (vrV v0), 5, 48) := by kernel_rfl

theorem Lv.src {w : World} {v : Value} {l : List Vr} (h : Lv w v l) : Src Try.prog w v 5 l.length (vsC l) := by
  obtain ⟨a, cap, rfl, h1, h2⟩ := h
  rcases h1 with rfl | ⟨b, off, rfl, hc⟩
  · exact Src.none a 5 cap
  · refine Src.slice (fun i hi => ?_) (vsC_len l)
    rw [vsC_len] at hi
    have hx : l[i / 5]? = some l[i / 5] := List.getElem?_eq_getElem (by omega)
    have e := vsC_at l (i / 5) _ hx (i % 5) (by omega)
    rw [show i / 5 * 5 + i % 5 = i by omega] at e
    have hj : (vrC l[i / 5])[i % 5]? = some ((vrC l[i / 5])[i % 5]'(by simp [vrC]; omega)) := List.getElem?_eq_getElem _
    have h := hc (i / 5) _ hx (i % 5) _ hj
    rw [e, hj, ← h]
    congr 2
    omega

/-- A call that makes a list of its own. -/
def OwnSays (w : World) (l : List Vr) (e : Ending) (w' : World) : Prop :=
  ∃ v L, e = .returned v ∧ Own w' 25 5 v l.length (vsC l) L ∧ Mod [] w w' ∧ ∀ k ∈ L, w.heap.size ≤ k

set_option maxRecDepth 100000 in
set_option maxHeartbeats 1000000 in
theorem own_c (w : World) (v : Value) (l : List Vr) (h : Lv w v l) (hl : l.length ≤ 1000000) :
    Calls Try.prog 35 #[v] w (OwnSays w l) := by
  have H := hid h
  obtain ⟨a, cap, rfl, _, hlen⟩ := h
  obtain ⟨i, hi, hz, hsize, hby⟩ := info_parts elem_ver
  have hmk : (Instr.makeSlice 22 (.int .i64 l.length) (.int .i64 l.length)).run Try.prog w = .ok (.slice (some ⟨w.heap.size, 0, none⟩) l.length l.length) (w.alloc (.cells (madeCells (vrV v0).cells (l.length * 5)) 25)) := by
    have := run_make_row (P := Try.prog) (w := w) 22 25 i (vrV v0) Try.underlying22 hi hz l.length (by rw [hby]; omega) (by omega)
    rw [hsize] at this
    exact this
  obtain ⟨Z, hZ⟩ : ∃ Z, Z = madeCells (vrV v0).cells (l.length * 5) := ⟨_, rfl⟩
  rw [← hZ] at hmk
  have hZs : Hid (Z.size = l.length * 5) := by show _ = _; rw [hZ, size_madeCells]
  clear hZ hi hz hsize hby
  have hB := hid (Blk.new w Z 25)
  have hS : Hid (Src Try.prog (w.alloc (.cells Z 25)) (.slice a l.length cap) 5 l.length (vsC l)) := (H.out.mod ((Mod.refl [] w).alloc _)).src
  go_enter Try.func35, Try.ntmps35
  go_wp2_with (refine wpList_copy_full rfl (.tmp 7) (.tmp 8) 22 22 rfl 25 5 Try.underlying22 (by kernel_rfl) l.length l.length (.slice a l.length cap) rfl (vsC l) hS.out w.heap.size Z 25 rfl hB.out hZs.out (vsC_one l) ?_; intro w1 hb1 hm1)
  go_ret
  refine ⟨_, [w.heap.size], rfl, ⟨vsC_len l, Or.inr ⟨w.heap.size, l.length, _, rfl, rfl, hb1.out, Nat.le_refl _, by simp [maxLen]; omega, by simp [vsC_len], ?_⟩⟩, ?_, by simp⟩
  · rw [List.take_of_length_le (by simp [vsC_len])]
  · exact ((Mod.refl [] w).alloc _).trans hm1.out (by simp) (by intro x hx hlt; simp at hx; omega)

end Go.Proofs.Ytmdomihpohekiaa
