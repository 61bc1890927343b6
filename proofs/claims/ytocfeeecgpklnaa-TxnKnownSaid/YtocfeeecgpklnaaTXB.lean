/- The search by key. -/
import Derived.Test.YtocfeeecgpklnaaTXA
namespace Go.Proofs.Ytocfeeecgpklnaa
set_option linter.unusedVariables false
set_option linter.unusedSimpArgs false
set_option linter.unusedSectionVars false
open Go.RowKit

set_option maxRecDepth 100000 in
set_option maxHeartbeats 1000000 in
theorem search_c (w : World) (v : Value) (l : List Rc) (r : ByteArray) (h : Lx 4 rcC w v l) (hs : Kr l) (hl : l.length ≤ 1000000) :
    Calls Try.prog 60 #[v, .string r, .func (.func 61) #[] #[]] w (KbSays l r w) := by
  have H := hid h
  obtain ⟨a, cap, rfl, _, hlen⟩ := h
  have HS := hid hs
  clear hs
  go_enter Try.func60, Try.ntmps60
  go_wp2
  go_loopg [9, 10] l.length (fun g p q wr => ∃ lo hi : Nat, p = .int .i64 lo ∧ q = .int .i64 hi ∧ lo ≤ hi ∧ hi ≤ l.length ∧ hi - lo ≤ g ∧ Hid (∀ j x, j < lo → l[j]? = some x → SL x.key r) ∧ Hid (∀ j x, hi ≤ j → l[j]? = some x → ¬ SL x.key r) ∧ Hid (Mod [] w wr))
  · exact ⟨0, l.length, rfl, rfl, by omega, by omega, by omega, hid (by intro j x h; omega), hid (by intro j x h hx; rw [List.getElem?_eq_none (by omega)] at hx; cases hx), Mod.refl _ _⟩
  · obtain ⟨lo, hi, rfl, rfl, hle, hhi, hg, hA, hZ, hW⟩ := hrel
    by_cases hlt : lo < hi
    · obtain ⟨m, hm⟩ : ∃ m, m = (lo + hi) / 2 := ⟨_, rfl⟩
      have hm1 : lo ≤ m := by omega
      have hm2 : m < hi := by omega
      have hm3 : (m : Int) < (l.length : Int) := by omega
      have hmi : Hid (((lo : Int) + (hi : Int)) / 2 = (m : Int)) := by show _ = _; omega
      clear hm
      go_upto_region 5 with (fail)
      rw [hmi.out]
      obtain ⟨x, hx⟩ : ∃ x, l[m]? = some x := ⟨_, List.getElem?_eq_getElem (by omega)⟩
      obtain ⟨b, off, rfl, hc⟩ := (H.out.mod hW.out).at hx
      have c0 := hc 0 _ rfl
      have c1 := hc 1 _ rfl
      have c2 := hc 2 _ rfl
      have c3 := hc 3 _ rfl
      simp only [Nat.add_zero] at c0
      have Hx := hid hx
      clear hx hc
      have hm0 : (0 : Int) ≤ (m : Int) := by omega
      by_cases hc : SL x.key r
      · have ho := cmp_lt hc
        have Hc := hid hc
        clear hc
        go_wp2_with (go_at_call 61; (with_reducible refine (place1_c x r _).mono ?_); rintro e w' ⟨rfl, hm⟩; rw [ho]; have hN := hid (hW.out.tr hm); clear hm c0 c1 c2 c3)
        go_roundg (gk - 1)
        case measure => omega
        case rel => exact ⟨m + 1, hi, by go_num, rfl, by omega, by omega, by omega, hid (fun j y hj hy => kr_lb HS.out (j := j) (k := m) (by omega) hy Hx.out Hc.out), hZ, hN⟩
      · have ho := cmp_ge hc
        have Hc := hid hc
        clear hc
        go_wp2_with (go_at_call 61; (with_reducible refine (place1_c x r _).mono ?_); rintro e w' ⟨rfl, hm⟩; have hN := hid (hW.out.tr hm); clear hm c0 c1 c2 c3)
        go_roundg (gk - 1)
        case measure => omega
        case rel => exact ⟨lo, m, rfl, rfl, by omega, by omega, by omega, hA, hid (fun j y hj hy h => Hc.out (kr_lb HS.out (j := m) (k := j) hj Hx.out hy h)), hN⟩
    · obtain rfl : lo = hi := by omega
      have hI : Hid (IsKb l r lo) := ⟨hhi, hA.out, hZ.out⟩
      clear hlt hle
      by_cases hlt : lo < l.length
      · have hlti : (lo : Int) < (l.length : Int) := by omega
        obtain ⟨x, hx⟩ : ∃ x, l[lo]? = some x := ⟨_, List.getElem?_eq_getElem (by omega)⟩
        obtain ⟨b, off, rfl, hc⟩ := (H.out.mod hW.out).at hx
        have c0 := hc 0 _ rfl
        have c1 := hc 1 _ rfl
        have c2 := hc 2 _ rfl
        have c3 := hc 3 _ rfl
        simp only [Nat.add_zero] at c0
        have Hx := hid hx
        clear hx hc
        by_cases hc : x.key = r
        · have ho : cmpI x.key r = 0 := by rw [hc]; exact cmp_eq
          have Hc := hid hc
          clear hc
          go_wp2_with (go_at_call 61; (with_reducible refine (place1_c x r _).mono ?_); rintro e w' ⟨rfl, hm⟩; rw [ho]; have hN := hid (hW.out.tr hm); clear hm c0 c1 c2 c3)
          go_ret2
          exact ⟨lo, true, rfl, hI.out, ⟨fun _ => ⟨x, Hx.out, Hc.out⟩, fun _ => rfl⟩, hN.out⟩
        · have ho := cmp_ne hc
          have ho2 : (cmpI x.key r == 0) = false := beq_eq_false_iff_ne.2 ho
          have Hc := hid hc
          clear hc ho
          go_wp2_with (go_at_call 61; (with_reducible refine (place1_c x r _).mono ?_); rintro e w' ⟨rfl, hm⟩; have hN := hid (hW.out.tr hm); clear hm c0 c1 c2 c3)
          go_ret2
          refine ⟨lo, false, rfl, hI.out, ⟨(fun h => by cases h), (fun ⟨y, hy, ha⟩ => ?_)⟩, hN.out⟩
          rw [Hx.out] at hy
          cases hy
          exact absurd ha Hc.out
      · have hlti : ¬ (lo : Int) < (l.length : Int) := by omega
        go_wp2
        go_ret2
        refine ⟨lo, false, rfl, hI.out, ⟨(fun h => by cases h), (fun ⟨y, hy, ha⟩ => ?_)⟩, hW.out⟩
        rw [List.getElem?_eq_none (by omega)] at hy
        cases hy
end Go.Proofs.Ytocfeeecgpklnaa
