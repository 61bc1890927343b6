/- Texts compared: cmp.Compare. -/
import Derived.Test.YtocfeeecgpklnaaSPA
import Derived.Test.YtocfeeecgpklnaaK9
import Derived.Deep.RegionHeld3
import Derived.RegionTactic
import Derived.BigRegion
namespace Go.Proofs.Ytocfeeecgpklnaa
set_option linter.unusedVariables false
set_option linter.unusedSimpArgs false
set_option linter.unusedSectionVars false
open Go.RowKit

open Classical in
noncomputable def cmpI (a b : ByteArray) : Int := if SL a b then -1 else if a = b then 0 else 1
theorem eqS_iff (a b : ByteArray) : (a.toList == b.toList) = true ↔ a = b := by
  rw [beq_iff_eq, Lib.toList_data, Lib.toList_data]
  exact ⟨ba_ext, fun h => by rw [h]⟩
theorem eqS_no {a b : ByteArray} (h : a ≠ b) : (a.toList == b.toList) = false := by
  cases hq : (a.toList == b.toList)
  · rfl
  · exact absurd ((eqS_iff a b).1 hq) h
theorem blS_yes {a b : ByteArray} (h : SL a b) : Op.bytesLess a.toList b.toList = true := (ltS_iff a b).2 h
theorem blS_no {a b : ByteArray} (h : ¬ SL a b) : Op.bytesLess a.toList b.toList = false := by
  cases hq : Op.bytesLess a.toList b.toList
  · rfl
  · exact absurd ((ltS_iff a b).1 hq) h
theorem mt_list : mt.toList = [] := by decide +kernel
theorem mt_iff (a : ByteArray) : a = mt ↔ a.toList = [] := by
  constructor
  · rintro rfl; exact mt_list
  · intro h
    rw [Lib.toList_data] at h
    exact ba_ext (by rw [h]; rfl)
theorem mt_emp {a : ByteArray} (h : a = mt) : a.toList.isEmpty = true := by rw [(mt_iff a).1 h]; rfl
theorem nmt_emp {a : ByteArray} (h : a ≠ mt) : a.toList.isEmpty = false := by
  cases hq : a.toList.isEmpty
  · rfl
  · exact absurd ((mt_iff a).2 (List.isEmpty_iff.1 hq)) h
theorem nmt_list {a : ByteArray} (h : a ≠ mt) : ¬ a.toList = [] := fun k => h ((mt_iff a).2 k)

theorem nan_c (s : ByteArray) (w : World) : Calls Try.prog 66 #[.string s] w fun e w' => e = .returned (.bool false) ∧ w = w' := by
  go_enter Try.func66, Try.ntmps66
  go_wp2
  go_ret
  exact ⟨rfl, rfl⟩

set_option maxRecDepth 100000 in
theorem compare_c (a b : ByteArray) (w : World) : Calls Try.prog 62 #[.string a, .string b] w fun e w' => e = .returned (.int .i64 (cmpI a b)) ∧ w = w' := by
  rcases SL_tri a b with h | h | h
  · have f1 := blS_yes h
    have hc : cmpI a b = -1 := by unfold cmpI; rw [if_pos h]
    rw [hc]
    clear hc
    go_enter Try.func62, Try.ntmps62
    go_wp2_with (go_at_call 66; refine (nan_c _ _).mono ?_; rintro e w' ⟨rfl, rfl⟩)
    go_ret
    exact ⟨rfl, rfl⟩
  · subst h
    have f1 := blS_no (SL_irrefl a)
    have hc : cmpI a a = 0 := by unfold cmpI; rw [if_neg (SL_irrefl a), if_pos rfl]
    rw [hc]
    clear hc
    go_enter Try.func62, Try.ntmps62
    go_wp2_with (go_at_call 66; refine (nan_c _ _).mono ?_; rintro e w' ⟨rfl, rfl⟩)
    go_ret
    exact ⟨rfl, rfl⟩
  · have f1 := blS_no (SL_asymm h)
    have f2 := eqS_no (show a ≠ b from fun k => by subst k; exact SL_irrefl _ h)
    have hc : cmpI a b = 1 := by unfold cmpI; rw [if_neg (SL_asymm h), if_neg (show a ≠ b from fun k => by subst k; exact SL_irrefl _ h)]
    rw [hc]
    clear hc
    go_enter Try.func62, Try.ntmps62
    go_wp2_with (go_at_call 66; refine (nan_c _ _).mono ?_; rintro e w' ⟨rfl, rfl⟩)
    go_ret
    exact ⟨rfl, rfl⟩

theorem cmp_lt {a b : ByteArray} (h : SL a b) : cmpI a b = -1 := by unfold cmpI; rw [if_pos h]
theorem cmp_ge {a b : ByteArray} (h : ¬ SL a b) : 0 ≤ cmpI a b := by unfold cmpI; rw [if_neg h]; split <;> decide
theorem cmp_eq {a : ByteArray} : cmpI a a = 0 := by unfold cmpI; rw [if_neg (SL_irrefl a), if_pos rfl]
theorem cmp_ne {a b : ByteArray} (h : a ≠ b) : cmpI a b ≠ 0 := by
  by_cases k : SL a b
  · rw [cmp_lt k]; decide
  · unfold cmpI; rw [if_neg k, if_neg h]; decide

/-- A record. -/
structure Rc where
  key : ByteArray
  ln : Nat
  dl : Bool
  vl : ByteArray
def rcC (x : Rc) : List Value := [.string x.key, .int .u64 x.ln, .bool x.dl, .string x.vl]
abbrev rcV (x : Rc) : Value := .agg #[.string x.key, .int .u64 x.ln, .bool x.dl, .string x.vl]
theorem rc_lays : Lays 4 rcC := ⟨fun _ => rfl, fun x u hu => by simp [rcC] at hu; rcases hu with rfl | rfl | rfl | rfl <;> rfl, by decide⟩

/-- The keys rise. -/
abbrev Kr (l : List Rc) : Prop := l.Pairwise fun x y => SL x.key y.key
def IsKb (l : List Rc) (k : ByteArray) (i : Nat) : Prop := i ≤ l.length ∧ (∀ j x, j < i → l[j]? = some x → SL x.key k) ∧ (∀ j x, i ≤ j → l[j]? = some x → ¬ SL x.key k)
theorem kr_lb {l : List Rc} (h : Kr l) {r : ByteArray} {j k : Nat} {x y : Rc} (hjk : j ≤ k) (hx : l[j]? = some x) (hy : l[k]? = some y) (hr : SL y.key r) : SL x.key r := by
  rcases Nat.lt_or_ge j k with hlt | hge
  · obtain ⟨hj, rfl⟩ := List.getElem?_eq_some_iff.1 hx
    obtain ⟨hk, rfl⟩ := List.getElem?_eq_some_iff.1 hy
    exact SL_trans (List.pairwise_iff_getElem.1 h j k hj hk hlt) hr
  · obtain rfl : j = k := by omega
    rw [hx] at hy; cases hy; exact hr

set_option maxRecDepth 100000 in
theorem place1_c (x : Rc) (k : ByteArray) (w : World) : Calls Try.prog 61 #[rcV x, .string k] w fun e w' => e = .returned (.int .i64 (cmpI x.key k)) ∧ Mod [] w w' := by
  go_enter Try.func61, Try.ntmps61
  go_wp2_with (go_at_call 62; refine (compare_c _ _ _).mono ?_; rintro e w' ⟨rfl, rfl⟩)
  go_ret
  exact ⟨rfl, (Mod.refl [] w).alloc _⟩

/-- What the search tells. -/
def KbSays (l : List Rc) (k : ByteArray) (w : World) (e : Ending) (w' : World) : Prop :=
  ∃ (i : Nat) (q : Bool), e = .returned (.tuple #[.int .i64 i, .bool q]) ∧ IsKb l k i ∧ (q = true ↔ ∃ x, l[i]? = some x ∧ x.key = k) ∧ Mod [] w w'

end Go.Proofs.Ytocfeeecgpklnaa
