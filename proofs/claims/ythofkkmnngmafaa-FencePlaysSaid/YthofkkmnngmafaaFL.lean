/- How deep the leaves lie: the walk. -/
import Derived.Test.YthofkkmnngmafaaFG
namespace Go.Proofs.Ythofkkmnngmafaa
set_option linter.unusedVariables false
set_option linter.unusedSimpArgs false
set_option linter.unusedSectionVars false
open Go.RowKit

theorem depthL_c (p : Nat) (w : World) : Calls Try.prog 96 #[.int .u64 p] w fun e w' => e = .returned (.int .i64 0) ∧ w = w' := by
  go_enter Try.func96, Try.ntmps96
  go_wp2
  go_ret
  exact ⟨rfl, rfl⟩

set_option maxRecDepth 100000 in
set_option maxHeartbeats 1000000 in
theorem depthN_c : ∀ (d : Nat) (t : Tr (d + 1)) (b : Nat) (w : World) (L : List Nat), trR (d + 1) t (.nd b) w L → Fan (d + 1) t → d ≤ 1000 →
    Calls Try.prog 97 #[.pointer (some ⟨b, 0, none⟩)] w fun e w' => e = .returned (.int .i64 ((d : Int) + 1)) ∧ w = w'
  | d, t, b, w, L, h, hF, hd => by
    obtain ⟨b', cs, e, Ln, La, hn, hall, _⟩ := h
    cases e
    have hcl := allR_len hall
    have h2 := hF.1
    obtain ⟨x, hx⟩ : ∃ x, t.1[0]? = some x := ⟨_, List.getElem?_eq_getElem (by omega)⟩
    obtain ⟨ci, hci⟩ : ∃ ci, cs[0]? = some ci := ⟨_, List.getElem?_eq_getElem (by omega)⟩
    have hFx := hF.2.2.2 x (List.mem_of_getElem? hx)
    obtain ⟨Lx, hLx⟩ : ∃ Lx, trR d x ci w Lx := by
      cases ht : t.1 with
      | nil => rw [ht] at hx; cases hx
      | cons y ks =>
        cases hc : cs with
        | nil => rw [hc] at hci; cases hci
        | cons c cs' =>
          rw [ht] at hx hall
          rw [hc] at hci hall
          cases hx; cases hci
          obtain ⟨L1, _, h1, _⟩ := hall
          exact ⟨L1, h1⟩
    obtain ⟨g, cap, c0, c0i⟩ := hn.kid hci
    have hbl := hn.lt
    have hcs0 : (0 : Int) < (cs.length : Int) := by omega
    have hcs1 : 0 < cs.length := by omega
    clear hn hall hF hcl hx hci h2
    cases d with
    | zero =>
      obtain ⟨rfl, _⟩ := hLx
      replace c0i : w.cell? ⟨g, 0, none⟩ = some (.iface 58 (.int .u64 (x : Nat))) := c0i
      go_enter Try.func97, Try.ntmps97
      go_wp2_with (first
        | (go_at_call 96; refine (depthL_c _ _).mono ?_; rintro e w' ⟨rfl, rfl⟩)
        | fail)
      go_ret
      exact ⟨rfl, rfl⟩
    | succ d =>
      have hLx' := hLx
      obtain ⟨bi, csi, rfl, _⟩ := hLx'
      replace c0i : w.cell? ⟨g, 0, none⟩ = some (.iface 65 (.pointer (some ⟨bi, 0, none⟩))) := c0i
      have hrec := hid (depthN_c d x bi w Lx hLx hFx (by omega))
      have hd1 : (d : Int) ≤ 1000 := by omega
      go_enter Try.func97, Try.ntmps97
      go_wp2_with (first
        | (go_at_call 97; refine hrec.out.mono ?_; rintro e w' ⟨rfl, rfl⟩)
        | fail)
      go_ret
      exact ⟨by simp; omega, rfl⟩
end Go.Proofs.Ythofkkmnngmafaa
