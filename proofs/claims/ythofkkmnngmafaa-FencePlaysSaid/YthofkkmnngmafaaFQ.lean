/- Whether a list of pids has one: the walk of Index, Contains. -/
import Derived.Test.YthofkkmnngmafaaFP
namespace Go.Proofs.Ythofkkmnngmafaa
set_option linter.unusedVariables false
set_option linter.unusedSimpArgs false
set_option linter.unusedSectionVars false
open Go.RowKit

set_option maxRecDepth 100000 in
set_option maxHeartbeats 1000000 in
theorem index_c (w : World) (v : Value) (l : List Nat) (x : Nat) (h : Lx 1 idC w v l) (hl : l.length ≤ 1000) :
    Calls Try.prog 58 #[v, .int .u64 (x : Nat)] w fun e w' => (∃ r : Int, e = .returned (.int .i64 r) ∧ (0 ≤ r ↔ x ∈ l)) ∧ w = w' := by
  have H := hid h
  obtain ⟨a, cap, rfl, _, hlen⟩ := h
  go_enter Try.func58, Try.ntmps58
  go_wp2
  go_loopg [8] l.length (fun g i wr => ∃ j : Nat, i = .int .i64 j ∧ j + g = l.length ∧ Hid (∀ j' y, j' < j → l[j']? = some y → y ≠ x) ∧ Hid (w = wr))
  · exact ⟨0, rfl, by omega, hid (by intro j' y h; omega), rfl⟩
  · obtain ⟨j, rfl, hj, hA, hM⟩ := hrel
    obtain rfl := hM.out
    clear hM
    by_cases hlt : j < l.length
    · obtain ⟨y, hy⟩ : ∃ y, l[j]? = some y := ⟨_, List.getElem?_eq_getElem hlt⟩
      obtain ⟨b, off, rfl, hc⟩ := H.out.at hy
      have c0 : w.cell? ⟨b, off + j, none⟩ = some (.int .u64 (y : Nat)) := by
        have := hc 0 (.int .u64 (y : Nat)) rfl
        simpa using this
      have Hy := hid hy
      have hi1 : (j : Int) < (l.length : Int) := by omega
      have hi0 : (0 : Int) ≤ (j : Int) := by omega
      clear hy hc
      by_cases hxy : x = y
      · have hb : ((x : Int) == (y : Int)) = true := by subst hxy; simp
        have HE := hid hxy
        clear hxy
        go_wp2
        go_ret
        exact ⟨⟨_, rfl, by
          have := List.mem_of_getElem? Hy.out
          rw [HE.out]
          exact ⟨fun _ => this, fun _ => by omega⟩⟩, rfl⟩
      · have hb : ((x : Int) == (y : Int)) = false := beq_eq_false_iff_ne.2 (by omega)
        have HE := hid hxy
        clear hxy
        go_wp2
        go_roundg (gk - 1)
        case measure => omega
        case rel => exact ⟨j + 1, by go_num, by omega, hid (by
          intro j' z h1 h2
          rcases (by omega : j' < j ∨ j' = j) with h | rfl
          · exact hA.out j' z h h2
          · rw [Hy.out] at h2; cases h2; exact fun h => HE.out h.symm), rfl⟩
    · obtain rfl : j = l.length := by omega
      have hi1 : ¬ ((l.length : Int) < (l.length : Int)) := by omega
      go_wp2
      go_ret
      exact ⟨⟨_, rfl, by
        refine ⟨fun h => by simp at h, fun h => ?_⟩
        obtain ⟨i, hi⟩ := List.mem_iff_getElem?.1 h
        exact absurd rfl (hA.out i x (List.getElem?_eq_some_iff.1 hi).1 hi)⟩, rfl⟩

set_option maxRecDepth 100000 in
theorem contains_c (w : World) (v : Value) (l : List Nat) (x : Nat) (h : Lx 1 idC w v l) (hl : l.length ≤ 1000) :
    Calls Try.prog 32 #[v, .int .u64 (x : Nat)] w fun e w' => e = .returned (.bool (decide (x ∈ l))) ∧ w = w' := by
  have H := hid (index_c w v l x h hl)
  clear h
  go_enter Try.func32, Try.ntmps32
  go_wp2_with fail
  refine H.out.mono ?_
  rintro e w1 ⟨⟨r, rfl, hr⟩, rfl⟩
  have e1 : decide (x ∈ l) = decide (0 ≤ r) := decide_eq_decide.2 hr.symm
  have HE := hid e1
  clear hr e1
  go_wp2
  all_goals
    go_ret
    exact ⟨by rw [HE.out]; rfl, rfl⟩
end Go.Proofs.Ythofkkmnngmafaa
