/- cmp.Compare, ends, order. -/
import Derived.Test.YtkacjggjmdndaaaSPA
import Derived.Test.YtkacjggjmdndaaaK5
import Derived.Test.YtkacjggjmdndaaaI0
import Derived.Deep.RegionHeld3
namespace Go.Proofs.Ytkacjggjmdndaaa
set_option linter.unusedVariables false
set_option linter.unusedSimpArgs false
set_option linter.unusedSectionVars false
open Go.RowKit

open Classical in
noncomputable def cmpI (a b : ByteArray) : Int := if SL a b then -1 else if a = b then 0 else 1
open Classical in
noncomputable def endI (a b : ByteArray) : Int := if a = b then 0 else if EL a b then -1 else 1
open Classical in
noncomputable def ordI (x y : Rg) : Int := if Al x y then 0 else if RL x y then -1 else 1

theorem eqS_iff (a b : ByteArray) : (a.toList == b.toList) = true ↔ a = b := by
  rw [beq_iff_eq, Lib.toList_data, Lib.toList_data]
  exact ⟨ba_ext, fun h => by rw [h]⟩
theorem eqS_no {a b : ByteArray} (h : a ≠ b) : (a.toList == b.toList) = false := by
  cases hq : (a.toList == b.toList)
  · rfl
  · exact absurd ((eqS_iff a b).1 hq) h
theorem blS_yes {a b : ByteArray} (h : SL a b) : Op.bytesLess a.toList b.toList = true := (ltS_iff a b).2 h
theorem blS_no {a b : ByteArray} (h : ¬ SL a b) : Op.bytesLess a.toList b.toList = false := by
  cases hq : Op.bytesLess a.toList b.toList
  · rfl
  · exact absurd ((ltS_iff a b).1 hq) h
theorem mt_list : mt.toList = [] := by decide +kernel
theorem mt_iff (a : ByteArray) : a = mt ↔ a.toList = [] := by
  constructor
  · rintro rfl; exact mt_list
  · intro h
    rw [Lib.toList_data] at h
    exact ba_ext (by rw [h]; rfl)
theorem mt_emp {a : ByteArray} (h : a = mt) : a.toList.isEmpty = true := by rw [(mt_iff a).1 h]; rfl
theorem nmt_emp {a : ByteArray} (h : a ≠ mt) : a.toList.isEmpty = false := by
  cases hq : a.toList.isEmpty
  · rfl
  · exact absurd ((mt_iff a).2 (List.isEmpty_iff.1 hq)) h
theorem nmt_list {a : ByteArray} (h : a ≠ mt) : ¬ a.toList = [] := fun k => h ((mt_iff a).2 k)

theorem nan_c (s : ByteArray) (w : World) : Calls Try.prog 30 #[.string s] w fun e w' => e = .returned (.bool false) ∧ w = w' := by
  go_enter Try.func30, Try.ntmps30
  go_wp2
  go_ret
  exact ⟨rfl, rfl⟩

set_option maxRecDepth 100000 in
theorem compare_c (a b : ByteArray) (w : World) : Calls Try.prog 25 #[.string a, .string b] w fun e w' => e = .returned (.int .i64 (cmpI a b)) ∧ w = w' := by
  rcases SL_tri a b with h | h | h
  · have f1 := blS_yes h
    have hc : cmpI a b = -1 := by unfold cmpI; rw [if_pos h]
    rw [hc]
    clear hc
    go_enter Try.func25, Try.ntmps25
    go_wp2_with (go_at_call 30; refine (nan_c _ _).mono ?_; rintro e w' ⟨rfl, rfl⟩)
    go_ret
    exact ⟨rfl, rfl⟩
  · subst h
    have f1 := blS_no (SL_irrefl a)
    have hc : cmpI a a = 0 := by unfold cmpI; rw [if_neg (SL_irrefl a), if_pos rfl]
    rw [hc]
    clear hc
    go_enter Try.func25, Try.ntmps25
    go_wp2_with (go_at_call 30; refine (nan_c _ _).mono ?_; rintro e w' ⟨rfl, rfl⟩)
    go_ret
    exact ⟨rfl, rfl⟩
  · have f1 := blS_no (SL_asymm h)
    have f2 := eqS_no (show a ≠ b from fun k => by subst k; exact SL_irrefl _ h)
    have hc : cmpI a b = 1 := by unfold cmpI; rw [if_neg (SL_asymm h), if_neg (show a ≠ b from fun k => by subst k; exact SL_irrefl _ h)]
    rw [hc]
    clear hc
    go_enter Try.func25, Try.ntmps25
    go_wp2_with (go_at_call 30; refine (nan_c _ _).mono ?_; rintro e w' ⟨rfl, rfl⟩)
    go_ret
    exact ⟨rfl, rfl⟩

set_option maxRecDepth 100000 in
theorem ends_c (a b : ByteArray) (w : World) : Calls Try.prog 17 #[.string a, .string b] w fun e w' => e = .returned (.int .i64 (endI a b)) ∧ w = w' := by
  by_cases h : a = b
  · subst h
    have hc : endI a a = 0 := by unfold endI; rw [if_pos rfl]
    rw [hc]
    clear hc
    go_enter Try.func17, Try.ntmps17
    go_wp2
    go_ret
    exact ⟨rfl, rfl⟩
  · have f0 := eqS_no h
    by_cases ha : a = mt
    · have f1 := (mt_iff a).1 ha
      have hc : endI a b = 1 := by unfold endI; rw [if_neg h, if_neg (fun k : EL a b => k.1 ha)]
      rw [hc]
      rw [f1] at f0
      clear hc h ha
      go_enter Try.func17, Try.ntmps17
      go_wp2
      go_ret
      exact ⟨rfl, rfl⟩
    · have f1 := nmt_list ha
      have f2 := nmt_emp ha
      by_cases hb : b = mt
      · have g1 := (mt_iff b).1 hb
        have hc : endI a b = -1 := by unfold endI; rw [if_neg h, if_pos ⟨ha, Or.inl hb⟩]
        rw [hc]
        rw [g1] at f0
        clear hc h ha hb
        go_enter Try.func17, Try.ntmps17
        go_wp2
        go_ret
        exact ⟨rfl, rfl⟩
      · have g1 := nmt_list hb
        have g2 := nmt_emp hb
        have hc : endI a b = cmpI a b := by
          unfold endI cmpI; rw [if_neg h, if_neg h]
          by_cases k : SL a b
          · rw [if_pos k, if_pos ⟨ha, Or.inr k⟩]
          · rw [if_neg k, if_neg (fun q : EL a b => q.2.elim hb k)]
        rw [hc]
        clear hc h ha hb
        go_enter Try.func17, Try.ntmps17
        go_wp2_with (go_at_call 25; refine (compare_c _ _ _).mono ?_; rintro e w' ⟨rfl, rfl⟩)
        go_ret
        exact ⟨rfl, rfl⟩

end Go.Proofs.Ytkacjggjmdndaaa
