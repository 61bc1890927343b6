/- Texts compared and searched; lists cloned. -/
import Derived.Test.YthofkkmnngmafaaFD1
import Derived.Test.YthofkkmnngmafaaFD2
import Derived.Test.YthofkkmnngmafaaK9
import Derived.WalkSpells
import Derived.Deep.RegionHeld3
import Derived.RegionTactic
import Derived.BigRegion
namespace Go.Proofs.Ythofkkmnngmafaa
set_option linter.unusedVariables false
set_option linter.unusedSimpArgs false
set_option linter.unusedSectionVars false
open Go.RowKit

theorem eqS_iff (a b : ByteArray) : (a.toList == b.toList) = true ↔ a = b := by
  rw [beq_iff_eq, Lib.toList_data, Lib.toList_data]
  exact ⟨ba_ext, fun h => by rw [h]⟩
theorem eqS_no {a b : ByteArray} (h : a ≠ b) : (a.toList == b.toList) = false := by
  cases hq : (a.toList == b.toList)
  · rfl
  · exact absurd ((eqS_iff a b).1 hq) h
theorem blS_yes {a b : ByteArray} (h : SL a b) : Op.bytesLess a.toList b.toList = true := (ltS_iff a b).2 h
theorem blS_no {a b : ByteArray} (h : ¬ SL a b) : Op.bytesLess a.toList b.toList = false := by
  cases hq : Op.bytesLess a.toList b.toList
  · rfl
  · exact absurd ((ltS_iff a b).1 hq) h
theorem mt_list : mt.toList = [] := by decide +kernel
theorem mt_iff (a : ByteArray) : a = mt ↔ a.toList = [] := by
  constructor
  · rintro rfl; exact mt_list
  · intro h
    rw [Lib.toList_data] at h
    exact ba_ext (by rw [h]; rfl)
theorem mt_emp {a : ByteArray} (h : a = mt) : a.toList.isEmpty = true := by rw [(mt_iff a).1 h]; rfl
theorem nmt_emp {a : ByteArray} (h : a ≠ mt) : a.toList.isEmpty = false := by
  cases hq : a.toList.isEmpty
  · rfl
  · exact absurd ((mt_iff a).2 (List.isEmpty_iff.1 hq)) h
theorem nmt_list {a : ByteArray} (h : a ≠ mt) : ¬ a.toList = [] := fun k => h ((mt_iff a).2 k)

theorem nan_c (s : ByteArray) (w : World) : Calls Try.prog 67 #[.string s] w fun e w' => e = .returned (.bool false) ∧ w = w' := by
  go_enter Try.func67, Try.ntmps67
  go_wp2
  go_ret
  exact ⟨rfl, rfl⟩

theorem nans_c (s : ByteArray) (w : World) : Calls Try.prog 55 #[.string s] w fun e w' => e = .returned (.bool false) ∧ w = w' := by
  go_enter Try.func55, Try.ntmps55
  go_wp2
  go_ret
  exact ⟨rfl, rfl⟩


def ltB (a b : ByteArray) : Bool := decide (SL a b)
theorem ltB_yes {a b : ByteArray} (h : SL a b) : ltB a b = true := decide_eq_true h
theorem ltB_no {a b : ByteArray} (h : ¬ SL a b) : ltB a b = false := decide_eq_false h
set_option maxRecDepth 100000 in
theorem less_c (a b : ByteArray) (w : World) : Calls Try.prog 54 #[.string a, .string b] w fun e w' => e = .returned (.bool (ltB a b)) ∧ w = w' := by
  by_cases h : SL a b
  · have f1 := blS_yes h
    rw [ltB_yes h]
    clear h
    go_enter Try.func54, Try.ntmps54
    go_wp2_with (go_at_call 67; refine (nan_c _ _).mono ?_; rintro e w' ⟨rfl, rfl⟩)
    go_ret
    exact ⟨rfl, rfl⟩
  · have f1 := blS_no h
    rw [ltB_no h]
    clear h
    go_enter Try.func54, Try.ntmps54
    go_wp2_with (go_at_call 67; refine (nan_c _ _).mono ?_; rintro e w' ⟨rfl, rfl⟩)
    go_ret
    exact ⟨rfl, rfl⟩

abbrev SrtS (l : List ByteArray) : Prop := l.Pairwise SL
def IsSb (l : List ByteArray) (k : ByteArray) (i : Nat) : Prop := i ≤ l.length ∧ (∀ j x, j < i → l[j]? = some x → SL x k) ∧ (∀ j x, i ≤ j → l[j]? = some x → ¬ SL x k)
def SbSays (l : List ByteArray) (k : ByteArray) (w : World) (e : Ending) (w' : World) : Prop := ∃ (i : Nat) (q : Bool), e = .returned (.tuple #[.int .i64 i, .bool q]) ∧ IsSb l k i ∧ (q = true ↔ l[i]? = some k) ∧ Mod [] w w'
theorem ss_lb {l : List ByteArray} (h : SrtS l) {r : ByteArray} {j k : Nat} {x y : ByteArray} (hjk : j ≤ k) (hx : l[j]? = some x) (hy : l[k]? = some y) (hr : SL y r) : SL x r := by
  rcases Nat.lt_or_ge j k with h1 | h1
  · obtain ⟨h2, rfl⟩ := List.getElem?_eq_some_iff.1 hx
    obtain ⟨h3, rfl⟩ := List.getElem?_eq_some_iff.1 hy
    exact SL_trans (List.pairwise_iff_getElem.1 h j k h2 h3 h1) hr
  · obtain rfl : j = k := by omega
    rw [hx] at hy; cases hy; exact hr

set_option maxRecDepth 100000 in
set_option maxHeartbeats 1000000 in
theorem bs_c (w : World) (v : Value) (l : List ByteArray) (r : ByteArray) (h : Lx 1 stC w v l) (hs : SrtS l) (hl : l.length ≤ 1000000) :
    Calls Try.prog 30 #[v, .string r] w (SbSays l r w) := by
  have H := hid h
  obtain ⟨a, cap, rfl, _, hlen⟩ := h
  have HS := hid hs
  clear hs
  go_enter Try.func30, Try.ntmps30
  go_wp2
  go_loopg [7, 8] l.length (fun g p q wr => ∃ lo hi : Nat, p = .int .i64 lo ∧ q = .int .i64 hi ∧ lo ≤ hi ∧ hi ≤ l.length ∧ hi - lo ≤ g ∧ Hid (∀ j x, j < lo → l[j]? = some x → SL x r) ∧ Hid (∀ j x, hi ≤ j → l[j]? = some x → ¬ SL x r) ∧ Hid (Mod [] w wr))
  · exact ⟨0, l.length, rfl, rfl, by omega, by omega, by omega, hid (by intro j x h; omega), hid (by intro j x h hx; rw [List.getElem?_eq_none (by omega)] at hx; cases hx), Mod.refl _ _⟩
  · obtain ⟨lo, hi, rfl, rfl, hle, hhi, hg, hA, hZ, hW⟩ := hrel
    by_cases hlt : lo < hi
    · obtain ⟨m, hm⟩ : ∃ m, m = (lo + hi) / 2 := ⟨_, rfl⟩
      have hm1 : lo ≤ m := by omega
      have hm2 : m < hi := by omega
      have hm3 : (m : Int) < (l.length : Int) := by omega
      have hmi : Hid (((lo : Int) + (hi : Int)) / 2 = (m : Int)) := by show _ = _; omega
      clear hm
      go_upto_region 5 with (fail)
      rw [hmi.out]
      obtain ⟨x, hx⟩ : ∃ x, l[m]? = some x := ⟨_, List.getElem?_eq_getElem (by omega)⟩
      obtain ⟨b, off, rfl, hc⟩ := (H.out.mod hW.out).at hx
      have c0 := hc 0 _ rfl
      simp only [Nat.add_zero, Nat.mul_one] at c0
      have Hx := hid hx
      clear hx hc
      have hm0 : (0 : Int) ≤ (m : Int) := by omega
      by_cases hc : SL x r
      · have ho := ltB_yes hc
        have Hc := hid hc
        clear hc
        go_wp2_with (go_at_call 54; refine (less_c _ _ _).mono ?_; rintro e w' ⟨rfl, rfl⟩; rw [ho])
        go_roundg (gk - 1)
        case measure => omega
        case rel => exact ⟨m + 1, hi, by go_num, rfl, by omega, by omega, by omega, hid (fun j y hj hy => ss_lb HS.out (j := j) (k := m) (by omega) hy Hx.out Hc.out), hZ, hW⟩
      · have ho := ltB_no hc
        have Hc := hid hc
        clear hc
        go_wp2_with (go_at_call 54; refine (less_c _ _ _).mono ?_; rintro e w' ⟨rfl, rfl⟩; rw [ho])
        go_roundg (gk - 1)
        case measure => omega
        case rel => exact ⟨lo, m, rfl, rfl, by omega, by omega, by omega, hA, hid (fun j y hj hy h => Hc.out (ss_lb HS.out (j := m) (k := j) hj Hx.out hy h)), hW⟩
    · obtain rfl : lo = hi := by omega
      have hI : Hid (IsSb l r lo) := ⟨hhi, hA.out, hZ.out⟩
      clear hlt hle
      by_cases hlt : lo < l.length
      · have hlti : (lo : Int) < (l.length : Int) := by omega
        have hlo0 : (0 : Int) ≤ (lo : Int) := by omega
        obtain ⟨x, hx⟩ : ∃ x, l[lo]? = some x := ⟨_, List.getElem?_eq_getElem (by omega)⟩
        obtain ⟨b, off, rfl, hc⟩ := (H.out.mod hW.out).at hx
        have c0 := hc 0 _ rfl
        simp only [Nat.add_zero, Nat.mul_one] at c0
        have Hx := hid hx
        clear hx hc
        by_cases hc : x = r
        · have ho : (x.toList == r.toList) = true := (eqS_iff _ _).2 hc
          have Hc := hid hc
          clear hc
          go_wp2_with (go_at_call 55; refine (nans_c _ _).mono ?_; rintro e w' ⟨rfl, rfl⟩)
          go_ret2
          exact ⟨lo, true, rfl, hI.out, ⟨fun _ => Hc.out ▸ Hx.out, fun _ => rfl⟩, hW.out⟩
        · have ho := eqS_no hc
          have Hc := hid hc
          clear hc
          go_wp2_with (go_at_call 55; refine (nans_c _ _).mono ?_; rintro e w' ⟨rfl, rfl⟩)
          go_ret2
          refine ⟨lo, false, rfl, hI.out, ⟨(fun h => by cases h), (fun hy => ?_)⟩, hW.out⟩
          rw [Hx.out] at hy
          exact absurd (Option.some.inj hy) Hc.out
      · have hlti : ¬ (lo : Int) < (l.length : Int) := by omega
        go_wp2
        go_ret2
        refine ⟨lo, false, rfl, hI.out, ⟨(fun h => by cases h), (fun hy => ?_)⟩, hW.out⟩
        rw [List.getElem?_eq_none (by omega)] at hy
        cases hy

/-- What Clone makes of ch. -/
def chMade (w : World) (l : List Ch) (e : Ending) (w' : World) : Prop :=
  ∃ v L, e = .returned v ∧ Own w' 60 1 v l.length (flat chC l) L ∧ Mod [] w w' ∧ ∀ k ∈ L, w.heap.size ≤ k
set_option maxRecDepth 100000 in
set_option maxHeartbeats 1000000 in
theorem ch_clone (w : World) (g off n cap : Nat) (l : List Ch) (h : Lx 1 chC w (.slice (some ⟨g, off, none⟩) n cap) l) (hn : l.length = n) (hl : l.length ≤ 1000000) :
    Calls Try.prog 74 #[.slice (some ⟨g, off, none⟩) n cap] w (chMade w l) := by
  subst hn
  have hq := Lib.run_eql_slice_nil (P := Try.prog) w 70 60 (some ⟨g, off, none⟩) l.length cap 0 0 Try.underlying70
  have HX : Hid (Lx 1 chC (w.alloc (.cells #[] 60)) (.slice (some ⟨g, off, none⟩) l.length cap) l) := h.mod ((Mod.refl [] w).alloc _)
  have HE : Hid (Own (w.alloc (.cells #[] 60)) 60 1 (.slice (some ⟨w.heap.size, 0, none⟩) 0 0) 0 [] [w.heap.size]) := ⟨by simp, Or.inr ⟨w.heap.size, 0, _, rfl, rfl, Blk.new _ _ _, Nat.le_refl _, by simp [maxLen], by simp, by simp⟩⟩
  clear h
  go_enter Try.func74, Try.ntmps74
  go_wp2_with (at_builtin; refine wpList_append_lx ch_lays rfl (.tmp 5) (.tmp 6) 70 60 rfl Try.underlying70 cin_el rfl rfl HE.out rfl HX.out (by omega) (by omega) ?_; intro v1 w1 L1 h1 h2 h3)
  go_ret
  refine ⟨v1, L1, rfl, ?_, ((Mod.refl [] w).alloc _).trans h2.out (by simp) (by intro x hx hlt; simp at hx; omega), ?_⟩
  · have h := h1.out
    rw [Nat.zero_add, List.nil_append] at h
    exact h
  · intro k hk
    rcases h3.out k hk with h | h
    · simp at h; omega
    · simp at h; omega

/-- What Clone makes of st. -/
def stMade (w : World) (l : List ByteArray) (e : Ending) (w' : World) : Prop :=
  ∃ v L, e = .returned v ∧ Own w' 9 1 v l.length (flat stC l) L ∧ Mod [] w w' ∧ ∀ k ∈ L, w.heap.size ≤ k
set_option maxRecDepth 100000 in
set_option maxHeartbeats 1000000 in
theorem st_clone (w : World) (g off n cap : Nat) (l : List ByteArray) (h : Lx 1 stC w (.slice (some ⟨g, off, none⟩) n cap) l) (hn : l.length = n) (hl : l.length ≤ 1000000) :
    Calls Try.prog 75 #[.slice (some ⟨g, off, none⟩) n cap] w (stMade w l) := by
  subst hn
  have hq := Lib.run_eql_slice_nil (P := Try.prog) w 23 9 (some ⟨g, off, none⟩) l.length cap 0 0 Try.underlying23
  have HX : Hid (Lx 1 stC (w.alloc (.cells #[] 9)) (.slice (some ⟨g, off, none⟩) l.length cap) l) := h.mod ((Mod.refl [] w).alloc _)
  have HE : Hid (Own (w.alloc (.cells #[] 9)) 9 1 (.slice (some ⟨w.heap.size, 0, none⟩) 0 0) 0 [] [w.heap.size]) := ⟨by simp, Or.inr ⟨w.heap.size, 0, _, rfl, rfl, Blk.new _ _ _, Nat.le_refl _, by simp [maxLen], by simp, by simp⟩⟩
  clear h
  go_enter Try.func75, Try.ntmps75
  go_wp2_with (at_builtin; refine wpList_append_lx st_lays rfl (.tmp 5) (.tmp 6) 23 9 rfl Try.underlying23 sin_el rfl rfl HE.out rfl HX.out (by omega) (by omega) ?_; intro v1 w1 L1 h1 h2 h3)
  go_ret
  refine ⟨v1, L1, rfl, ?_, ((Mod.refl [] w).alloc _).trans h2.out (by simp) (by intro x hx hlt; simp at hx; omega), ?_⟩
  · have h := h1.out
    rw [Nat.zero_add, List.nil_append] at h
    exact h
  · intro k hk
    rcases h3.out k hk with h | h
    · simp at h; omega
    · simp at h; omega
end Go.Proofs.Ythofkkmnngmafaa
