/- The search in order. -/
import Derived.Test.YtkacjggjmdndaaaSPC
namespace Go.Proofs.Ytkacjggjmdndaaa
set_option linter.unusedVariables false
set_option linter.unusedSimpArgs false
set_option linter.unusedSectionVars false
open Go.RowKit

theorem ord_lt {x r : Rg} (h : RL x r) : ordI x r = -1 := by unfold ordI; rw [if_neg (RL_al h), if_pos h]
theorem ord_ge {x r : Rg} (h : ¬ RL x r) : 0 ≤ ordI x r := by unfold ordI; rw [if_neg h]; split <;> decide
theorem ord_al {x r : Rg} (h : Al x r) : ordI x r = 0 := by unfold ordI; rw [if_pos h]
theorem ord_nal {x r : Rg} (h : ¬ Al x r) : ordI x r ≠ 0 := by unfold ordI; rw [if_neg h]; split <;> decide

/-- What the search tells. -/
def LbSays (l : List Rg) (r : Rg) (w : World) (e : Ending) (w' : World) : Prop :=
  ∃ (i : Nat) (q : Bool), e = .returned (.tuple #[.int .i64 i, .bool q]) ∧ IsLb l r i ∧ (q = true ↔ ∃ x, l[i]? = some x ∧ Al x r) ∧ Mod [] w w'

set_option maxRecDepth 100000 in
set_option maxHeartbeats 1000000 in
theorem search_c (w : World) (v : Value) (l : List Rg) (r : Rg) (h : Lx 3 rgC w v l) (hs : Srt l) (hl : l.length ≤ 1000000) :
    Calls Try.prog 22 #[v, wiV r, .func (.func 23) #[] #[]] w (LbSays l r w) := by
  have H := hid h
  obtain ⟨a, cap, rfl, _, hlen⟩ := h
  have HS := hid hs
  clear hs
  have hB := Blk.new w #[.string r.lo, .string r.hi] 46
  have hM := (Mod.refl [] w).alloc (.cells #[.string r.lo, .string r.hi] 46)
  go_enter Try.func22, Try.ntmps22
  go_wp2
  generalize w.alloc (.cells #[.string r.lo, .string r.hi] 46) = W at *
  generalize w.heap.size = b0 at *
  have HB := hid hB
  have HM := hid hM
  replace H := hid (H.out.mod hM)
  clear hB hM
  go_loopg [9, 10] l.length (fun g p q wr => ∃ lo hi : Nat, p = .int .i64 lo ∧ q = .int .i64 hi ∧ lo ≤ hi ∧ hi ≤ l.length ∧ hi - lo ≤ g ∧ Hid (∀ j x, j < lo → l[j]? = some x → RL x r) ∧ Hid (∀ j x, hi ≤ j → l[j]? = some x → ¬ RL x r) ∧ Hid (Mod [] W wr))
  · exact ⟨0, l.length, rfl, rfl, by omega, by omega, by omega, hid (by intro j x h; omega), hid (by intro j x h hx; rw [List.getElem?_eq_none (by omega)] at hx; cases hx), Mod.refl _ _⟩
  · obtain ⟨lo, hi, rfl, rfl, hle, hhi, hg, hA, hZ, hW⟩ := hrel
    by_cases hlt : lo < hi
    · obtain ⟨m, hm⟩ : ∃ m, m = (lo + hi) / 2 := ⟨_, rfl⟩
      have hm1 : lo ≤ m := by omega
      have hm2 : m < hi := by omega
      have hm3 : (m : Int) < (l.length : Int) := by omega
      have hmi : Hid (((lo : Int) + (hi : Int)) / 2 = (m : Int)) := by show _ = _; omega
      clear hm
      go_upto_region 5 with (fail)
      rw [hmi.out]
      obtain ⟨x, hx⟩ : ∃ x, l[m]? = some x := ⟨_, List.getElem?_eq_getElem (by omega)⟩
      obtain ⟨b, off, rfl, _⟩ := H.out.at hx
      have hS : Hid (∀ X, Mod [] wr X → X.cell? ⟨b, off + m * 3, none⟩ = some (.string x.lo) ∧ X.cell? ⟨b, off + m * 3 + 1, none⟩ = some (.string x.hi) ∧ X.cell? ⟨b, off + m * 3 + 2, none⟩ = some (.int .u64 x.ts) ∧ X.cell? ⟨b0, 0, none⟩ = some (.string r.lo) ∧ X.cell? ⟨b0, 1, none⟩ = some (.string r.hi)) := by
        intro X hX
        obtain ⟨b', off', e, hc⟩ := (H.out.mod (hW.out.tr hX)).at hx
        simp only [Option.some.injEq, Addr.mk.injEq, and_true] at e
        obtain ⟨rfl, rfl⟩ := e
        have hb := (hW.out.tr hX).blk HB.out (by simp)
        exact ⟨hc 0 _ rfl, hc 1 _ rfl, hc 2 _ rfl, hb.cell 0, hb.cell 1⟩
      have hS0 := hS.out _ (Mod.refl [] wr).drew
      have Hx := hid hx
      clear hx
      have hm0 : (0 : Int) ≤ (m : Int) := by omega
      by_cases hc : RL x r
      · have ho := ord_lt hc
        have Hc := hid hc
        clear hc
        go_region_held3 (fun X => Mod [] wr X ∧ X.cell? ⟨b, off + m * 3, none⟩ = some (.string x.lo) ∧ X.cell? ⟨b, off + m * 3 + 1, none⟩ = some (.string x.hi) ∧ X.cell? ⟨b, off + m * 3 + 2, none⟩ = some (.int .u64 x.ts) ∧ X.cell? ⟨b0, 0, none⟩ = some (.string r.lo) ∧ X.cell? ⟨b0, 1, none⟩ = some (.string r.hi))
          (first | exact ⟨(Mod.refl [] wr).drew, hS0⟩ | assumption | exact ⟨Mod.tr (And.left ‹Mod [] wr _ ∧ _›) hm, hS.out _ (Mod.tr (And.left ‹Mod [] wr _ ∧ _›) hm)⟩ | fail)
          (first
            | (go_at_call 23; (with_reducible refine (order_c x r _).mono ?_); rintro e w' ⟨rfl, hm⟩; rw [ho])
            | fail)
        have hN := hid (hW.out.tr (And.left ‹Mod [] wr _ ∧ _›))
        clear hS hS0 ho
        go_wp2
        go_roundg (gk - 1)
        case measure => omega
        case rel => exact ⟨m + 1, hi, by go_num, rfl, by omega, by omega, by omega, hid (fun j y hj hy => srt_lb HS.out (j := j) (k := m) (by omega) hy Hx.out Hc.out), hZ, hN⟩
      · have ho := ord_ge hc
        have Hc := hid hc
        clear hc
        go_region_held3 (fun X => Mod [] wr X ∧ X.cell? ⟨b, off + m * 3, none⟩ = some (.string x.lo) ∧ X.cell? ⟨b, off + m * 3 + 1, none⟩ = some (.string x.hi) ∧ X.cell? ⟨b, off + m * 3 + 2, none⟩ = some (.int .u64 x.ts) ∧ X.cell? ⟨b0, 0, none⟩ = some (.string r.lo) ∧ X.cell? ⟨b0, 1, none⟩ = some (.string r.hi))
          (first | exact ⟨(Mod.refl [] wr).drew, hS0⟩ | assumption | exact ⟨Mod.tr (And.left ‹Mod [] wr _ ∧ _›) hm, hS.out _ (Mod.tr (And.left ‹Mod [] wr _ ∧ _›) hm)⟩ | fail)
          (first
            | (go_at_call 23; (with_reducible refine (order_c x r _).mono ?_); rintro e w' ⟨rfl, hm⟩)
            | fail)
        have hN := hid (hW.out.tr (And.left ‹Mod [] wr _ ∧ _›))
        clear hS hS0
        go_wp2
        go_roundg (gk - 1)
        case measure => omega
        case rel => exact ⟨lo, m, rfl, rfl, by omega, by omega, by omega, hA, hid (fun j y hj hy h => Hc.out (srt_lb HS.out (j := m) (k := j) hj Hx.out hy h)), hN⟩
    · obtain rfl : lo = hi := by omega
      have hI : Hid (IsLb l r lo) := ⟨hhi, hA.out, hZ.out⟩
      clear hlt hle
      by_cases hlt : lo < l.length
      · have hlti : (lo : Int) < (l.length : Int) := by omega
        go_upto_region 8 with (fail)
        obtain ⟨x, hx⟩ : ∃ x, l[lo]? = some x := ⟨_, List.getElem?_eq_getElem (by omega)⟩
        obtain ⟨b, off, rfl, _⟩ := H.out.at hx
        have hS : Hid (∀ X, Mod [] wr X → X.cell? ⟨b, off + lo * 3, none⟩ = some (.string x.lo) ∧ X.cell? ⟨b, off + lo * 3 + 1, none⟩ = some (.string x.hi) ∧ X.cell? ⟨b, off + lo * 3 + 2, none⟩ = some (.int .u64 x.ts) ∧ X.cell? ⟨b0, 0, none⟩ = some (.string r.lo) ∧ X.cell? ⟨b0, 1, none⟩ = some (.string r.hi)) := by
          intro X hX
          obtain ⟨b', off', e, hc⟩ := (H.out.mod (hW.out.tr hX)).at hx
          simp only [Option.some.injEq, Addr.mk.injEq, and_true] at e
          obtain ⟨rfl, rfl⟩ := e
          have hb := (hW.out.tr hX).blk HB.out (by simp)
          exact ⟨hc 0 _ rfl, hc 1 _ rfl, hc 2 _ rfl, hb.cell 0, hb.cell 1⟩
        have hS0 := hS.out _ (Mod.refl [] wr).drew
        have Hx := hid hx
        clear hx
        have hm0 : (0 : Int) ≤ (lo : Int) := by omega
        by_cases hc : Al x r
        · have ho := ord_al hc
          have Hc := hid hc
          clear hc
          go_region_held3 (fun X => Mod [] wr X ∧ X.cell? ⟨b, off + lo * 3, none⟩ = some (.string x.lo) ∧ X.cell? ⟨b, off + lo * 3 + 1, none⟩ = some (.string x.hi) ∧ X.cell? ⟨b, off + lo * 3 + 2, none⟩ = some (.int .u64 x.ts) ∧ X.cell? ⟨b0, 0, none⟩ = some (.string r.lo) ∧ X.cell? ⟨b0, 1, none⟩ = some (.string r.hi))
            (first | exact ⟨(Mod.refl [] wr).drew, hS0⟩ | assumption | exact ⟨Mod.tr (And.left ‹Mod [] wr _ ∧ _›) hm, hS.out _ (Mod.tr (And.left ‹Mod [] wr _ ∧ _›) hm)⟩ | fail)
            (first
              | (go_at_call 23; (with_reducible refine (order_c x r _).mono ?_); rintro e w' ⟨rfl, hm⟩; rw [ho])
              | fail)
          have hN := hid (hW.out.tr (And.left ‹Mod [] wr _ ∧ _›))
          clear hS hS0 ho
          go_wp2
          go_ret2
          exact ⟨lo, true, rfl, hI.out, ⟨fun _ => ⟨x, Hx.out, Hc.out⟩, fun _ => rfl⟩, HM.out.tr hN.out⟩
        · have ho := ord_nal hc
          have ho2 : (ordI x r == 0) = false := beq_eq_false_iff_ne.2 ho
          have Hc := hid hc
          clear hc ho
          have ho := ho2
          clear ho2
          go_region_held3 (fun X => Mod [] wr X ∧ X.cell? ⟨b, off + lo * 3, none⟩ = some (.string x.lo) ∧ X.cell? ⟨b, off + lo * 3 + 1, none⟩ = some (.string x.hi) ∧ X.cell? ⟨b, off + lo * 3 + 2, none⟩ = some (.int .u64 x.ts) ∧ X.cell? ⟨b0, 0, none⟩ = some (.string r.lo) ∧ X.cell? ⟨b0, 1, none⟩ = some (.string r.hi))
            (first | exact ⟨(Mod.refl [] wr).drew, hS0⟩ | assumption | exact ⟨Mod.tr (And.left ‹Mod [] wr _ ∧ _›) hm, hS.out _ (Mod.tr (And.left ‹Mod [] wr _ ∧ _›) hm)⟩ | fail)
            (first
              | (go_at_call 23; (with_reducible refine (order_c x r _).mono ?_); rintro e w' ⟨rfl, hm⟩)
              | fail)
          have hN := hid (hW.out.tr (And.left ‹Mod [] wr _ ∧ _›))
          clear hS hS0 ho
          go_wp2
          go_ret2
          refine ⟨lo, false, rfl, hI.out, ⟨(fun h => by cases h), (fun ⟨y, hy, ha⟩ => ?_)⟩, HM.out.tr hN.out⟩
          rw [Hx.out] at hy
          cases hy
          exact absurd ha Hc.out
      · have hlti : ¬ (lo : Int) < (l.length : Int) := by omega
        have hld : decide ((lo : Int) < (l.length : Int)) = false := by simpa using hlti
        go_upto_region 8 with (fail)
        go_quiet (fail)
        rename_i nq _
        have hN := hid (hW.out.drewN nq)
        go_wp2
        go_ret2
        refine ⟨lo, false, rfl, hI.out, ⟨(fun h => by cases h), (fun ⟨y, hy, ha⟩ => ?_)⟩, HM.out.tr hN.out⟩
        rw [List.getElem?_eq_none (by omega)] at hy
        cases hy
end Go.Proofs.Ytkacjggjmdndaaa
