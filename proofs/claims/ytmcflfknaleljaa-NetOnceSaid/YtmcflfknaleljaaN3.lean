/- The bag: joined. -/
import Derived.Test.YtmcflfknaleljaaN2
namespace Go.Proofs.Ytmcflfknaleljaa
set_option linter.unusedVariables false
set_option linter.unusedSimpArgs false
set_option linter.unusedSectionVars false
open Go.RowKit

theorem rdl_shape {w : World} {sz : Nat} {v : Value} {n : Nat} {xs : List Value} (h : Rdl w sz v n xs) : ∃ a cap, v = .slice a n cap := by
  rcases h.2 with ⟨rfl, rfl⟩ | ⟨b, off, cap, rfl, _⟩
  · exact ⟨_, _, rfl⟩
  · exact ⟨_, _, rfl⟩

def JoinedSays (w : World) (n : Nat) (xs : List Value) (e : Ending) (w' : World) : Prop :=
  ∃ v L, e = .returned v ∧ Own w' 30 2 v n xs L ∧ Mod [] w w' ∧ ∀ k ∈ L, w.heap.size ≤ k

set_option maxRecDepth 100000 in
set_option maxHeartbeats 1000000 in
theorem joined_c (w : World) (q : Nat) (v1 v2 : Value) (n1 n2 : Nat) (xs1 xs2 : List Value) (hq0 : w.cell? ⟨q, 0, none⟩ = some v1) (hq1 : w.cell? ⟨q, 1, none⟩ = some v2) (h1 : Rdl w 2 v1 n1 xs1) (h2 : Rdl w 2 v2 n2 xs2) (hn : n1 + n2 ≤ 1000000) (ho1 : ∀ u ∈ xs1, u.oneCell' = true) (ho2 : ∀ u ∈ xs2, u.oneCell' = true) :
    Calls Try.prog 23 #[.slice (some ⟨q, 0, none⟩) 2 2] w (JoinedSays w (n1 + n2) (xs1 ++ xs2)) := by
  have H1 := hid h1
  have H2 := hid h2
  have Q0 := hid hq0
  have Q1 := hid hq1
  obtain ⟨a1, c1, hv1⟩ := rdl_shape h1
  obtain ⟨a2, c2, hv2⟩ := rdl_shape h2
  subst hv1 hv2
  clear h1 h2 hq0 hq1
  go_enter Try.func23, Try.ntmps23
  go_wp2
  go_loopg [3, 8] 2 (fun g o i wr => ∃ (k : Nat) (v : Value) (n : Nat) (xs : List Value) (L : List Nat), o = v ∧ i = .int .i64 k ∧ k + g = 2 ∧ Hid (Own wr 30 2 v n xs L) ∧ Hid (Mod [] w wr) ∧ Hid (∀ k ∈ L, w.heap.size ≤ k) ∧ Hid ((k = 0 → n = 0 ∧ xs = []) ∧ (k = 1 → n = n1 ∧ xs = xs1) ∧ (k = 2 → n = n1 + n2 ∧ xs = xs1 ++ xs2)))
  case atStart => exact ⟨0, _, 0, [], [], rfl, rfl, rfl, Own.nil _ _ _, Mod.refl _ _, hid (by intro k hk; cases hk), hid (by simp)⟩
  case round =>
    obtain ⟨k, v, n, xs, L, rfl, rfl, hk, hown, hmod, hL, hc⟩ := hrel
    rcases (by omega : k = 0 ∨ k = 1 ∨ k = 2) with rfl | rfl | rfl
    · obtain ⟨rfl, rfl⟩ := hc.out.1 rfl
      have hq := hmod.out.cellSome Q0.out (by simp)
      have hx := hid (H1.out.mod hmod.out (by simp))
      go_wp2_with (at_builtin; refine wpList_append_rdl rfl (.tmp 12) (.tmp 13) 26 30 rfl Try.underlying26 elem_frame rfl (by decide) rfl hown.out rfl hx.out ho1 (by omega) (by omega) ?_; intro v' w' L' g1 g2 g3)
      go_roundg 1
      case measure => omega
      case rel => exact ⟨1, v', n1, xs1, L', rfl, by go_num, rfl, hid (by simpa using g1.out), hmod.out.trans g2.out (by simp) (by intro x hx hlt; have := hL.out x hx; omega), hid (by
        intro x hx
        rcases g3.out x hx with h | h
        · exact hL.out x h
        · have := hmod.out.size; omega), hid (by simp)⟩
    · obtain ⟨rfl, rfl⟩ := hc.out.2.1 rfl
      have hq := hmod.out.cellSome Q1.out (by simp)
      have hx := hid (H2.out.mod hmod.out (by simp))
      go_wp2_with (at_builtin; refine wpList_append_rdl rfl (.tmp 12) (.tmp 13) 26 30 rfl Try.underlying26 elem_frame rfl (by decide) rfl hown.out rfl hx.out ho2 (by omega) (by omega) ?_; intro v' w' L' g1 g2 g3)
      go_roundg 0
      case measure => omega
      case rel => exact ⟨2, v', n + n2, xs ++ xs2, L', rfl, by go_num, rfl, g1.out, hmod.out.trans g2.out (by simp) (by intro x hx hlt; have := hL.out x hx; omega), hid (by
        intro x hx
        rcases g3.out x hx with h | h
        · exact hL.out x h
        · have := hmod.out.size; omega), hid (by simp)⟩
    · obtain ⟨rfl, rfl⟩ := hc.out.2.2 rfl
      go_wp2
      go_ret
      exact ⟨_, L, rfl, hown.out, hmod.out, hL.out⟩

end Go.Proofs.Ytmcflfknaleljaa
