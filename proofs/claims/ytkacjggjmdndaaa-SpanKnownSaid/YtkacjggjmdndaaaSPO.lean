/- SpanPlays, walked. -/
import Derived.Test.YtkacjggjmdndaaaSPN
import Derived.Lib.SmallJoins
import Derived.OpenShut
namespace Go.Proofs.Ytkacjggjmdndaaa
set_option linter.unusedVariables false
set_option linter.unusedSimpArgs false
set_option linter.unusedSectionVars false
open Go.RowKit

def Rg.Ok (x : Rg) : Prop := x.lo.size ≤ 9223372036854775807 ∧ x.hi.size ≤ 9223372036854775807 ∧ x.ts < 18446744073709551616
def strC (s : ByteArray) : List Value := [.string s]
theorem str_lays : Lays 1 strC := ⟨fun _ => rfl, fun x u hu => by simp [strC] at hu; subst hu; rfl, by decide⟩

theorem top_span {w0 w : World} {b : Nat} {most : Int} {l : List Rg} {R : Res} (h : Top w0 (star (spanR b most l) R) w) : ∃ L, spanR b most l w L := h.res
theorem top_ref {w0 w : World} {b : Nat} {most : Int} {l : List Rg} {R : Res} (h : Top w0 (star (refR b most l) R) w) : ∃ L, refR b most l w L := h.res

set_option maxRecDepth 100000 in
set_option maxHeartbeats 8000000 in
theorem plays_walk (most : Int) (a : Option Addr) (cap : Nat) (xs : List Rg) (ka : Option Addr) (kcap : Nat) (ks : List ByteArray) (w : World) (hm1 : -9223372036854775808 ≤ most) (hm2 : most ≤ 9223372036854775807) (h : Lx 3 rgC w (.slice a xs.length cap) xs) (hx : ∀ x ∈ xs, x.Ok) (hk : Lx 1 strC w (.slice ka ks.length kcap) ks) (hks : ∀ s ∈ ks, s.size ≤ 9223372036854775807) :
    Calls Try.prog 3 #[.int .i64 most, .slice a xs.length cap, .slice ka ks.length kcap] w fun e w' => e = .returned (.bool true) ∧ Mod [] w w' := by
  have HXS := hid h
  have HKS := hid hk
  have Hx := hid hx
  have Hks := hid hks
  have hlen := h.len.2
  have hklen := hk.len.2
  clear h hk hx hks
  rcases Int.lt_or_le most 1 with hlo | hhi
  · go_enter Try.func3, Try.ntmps3
    go_wp2_with fail
    refine (new_no _ most hlo).mono ?_
    rintro e w1 ⟨rfl, m1⟩
    have M1 := hid m1
    clear m1
    go_wp2_with fail
    refine (rnew_no _ most hlo).mono ?_
    rintro e w2 ⟨rfl, m2⟩
    have M2 := hid (M1.out.tr m2)
    clear m2 M1
    go_wp2_with fail
    refine (works_c _).mono ?_
    rintro e w3 ⟨rfl, m3⟩
    have M3 := hid (M2.out.tr m3)
    clear m3 M2
    go_wp2
    go_ret
    exact ⟨rfl, M3.out⟩
  · go_enter Try.func3, Try.ntmps3
    go_wp2_with fail
    refine (new_c _ most hhi).mono ?_
    rintro e w1 ⟨rfl, h1, m1, s1⟩
    have T1 := hid ((Top.start w).made h1 m1 (by simp))
    clear h1 m1 s1
    generalize w.heap.size = b1 at *
    go_wp2_with fail
    refine (rnew_c _ most hhi).mono ?_
    rintro e w2 ⟨rfl, h2, m2, s2⟩
    have T2 := hid (T1.out.made h2 m2 (by simp))
    clear h2 m2 s2 T1
    generalize w1.heap.size = b2 at *
    go_wp2
    go_loopg [9] 81 (fun g q wr => ∃ (k : Nat) (l : List Rg), q = .int .i64 k ∧ k + g = 81 ∧ k ≤ xs.length ∧ l.length ≤ k ∧ Hid (Srt l) ∧ Hid (Top w (star (refR b2 most l) (star (spanR b1 most l) emp)) wr))
    · exact ⟨0, [], rfl, by omega, by omega, by simp, srt_nil, T2⟩
    · clear T2
      obtain ⟨k, l, rfl, hkg, hkx, hll, hS, hT⟩ := hrel
      by_cases hlt : k < xs.length ∧ k < 80
      · obtain ⟨hlt1, hlt2⟩ := hlt
        have hki : (k : Int) < (xs.length : Int) := by omega
        have hki2 : (k : Int) < 80 := by omega
        obtain ⟨x, hxx⟩ : ∃ x, xs[k]? = some x := ⟨_, List.getElem?_eq_getElem hlt1⟩
        obtain ⟨hx1, hx2, hx3⟩ := Hx.out x (List.mem_of_getElem? hxx)
        obtain ⟨b', off, rfl, _⟩ := HXS.out.at hxx
        have hC : Hid (∀ X, Mod [] w X → X.cell? ⟨b', off + k * 3, none⟩ = some (.string x.lo) ∧ X.cell? ⟨b', off + k * 3 + 1, none⟩ = some (.string x.hi) ∧ X.cell? ⟨b', off + k * 3 + 2, none⟩ = some (.int .u64 x.ts)) := by
          intro X hX
          obtain ⟨_, _, e, hc⟩ := (HXS.out.mod hX).at hxx
          simp only [Option.some.injEq, Addr.mk.injEq, and_true] at e
          obtain ⟨rfl, rfl⟩ := e
          exact ⟨hc 0 _ rfl, hc 1 _ rfl, hc 2 _ rfl⟩
        obtain ⟨c0, c1, c2⟩ := hC.out _ hT.out.m.drew
        clear hxx
        go_upto_region 7 with (fail)
        go_region_held3 (fun X => X.cell? ⟨b', off + k * 3, none⟩ = some (.string x.lo) ∧ X.cell? ⟨b', off + k * 3 + 1, none⟩ = some (.string x.hi))
          (first | exact ⟨c0, c1⟩ | assumption | fail)
          (first | (go_at_call 9; (with_reducible refine (short_c _ _ (by assumption)).mono ?_); rintro e w' ⟨rfl, rfl⟩) | fail)
        have hlo20 := shortB_size x.lo
        have hhi20 := shortB_size x.hi
        generalize shortB x.lo = lo at *
        generalize shortB x.hi = hi at *
        have hT1 := hid hT.out.drew.swap
        have hSr := hid (readR_srt (most := most) (lo := lo) (hi := hi) (ts := x.ts) hS.out)
        have hrl := readR_len (most := most) (l := l) (lo := lo) (hi := hi) (ts := x.ts)
        clear hT c0 c1
        go_wp2_with fail
        refine (hT1.out.call (fun L hL => read_c _ b1 most l lo hi x.ts L hL hS.out (by omega) hhi)).mono ?_
        rintro e w3 ⟨rfl, h⟩
        have hT2 := hid h.swap
        obtain ⟨_, _, d2⟩ := hC.out _ h.m
        clear h hT1 c2
        go_wp2_with fail
        refine (hT2.out.call (fun L hL => rread_c _ b2 most l lo hi x.ts L hL hS.out (by omega) hhi)).mono ?_
        rintro e w4 ⟨rfl, h⟩
        obtain ⟨l2, hl2⟩ : ∃ l2, readR most l lo hi x.ts = l2 := ⟨_, rfl⟩
        rw [hl2] at h hSr hrl
        have hT3 := hid h
        have hl2k : l2.length ≤ k + 1 := by omega
        have hl2n : l2.length ≤ 1000 := by omega
        clear h hT2 d2 hl2 hrl hS hll
        obtain ⟨L1, hL1⟩ := top_ref hT3.out
        obtain ⟨L2, hL2⟩ := top_span hT3.out.drop
        have HL1 := hid hL1
        have HL2 := hid hL2
        clear hL1 hL2
        obtain ⟨v2, hb2c⟩ : ∃ v2, ∀ X, Mod [] w4 X → X.cell? ⟨b2, 1, none⟩ = some v2 ∧ b2 < X.heap.size ∧ ∃ a2 c2, v2 = .slice a2 l2.length c2 := by
          obtain ⟨v, M, hb, ho, _, _⟩ := HL1.out
          obtain ⟨a2, c2, e2, _⟩ := ho.val
          exact ⟨v, fun X hX => ⟨(hX.blk hb (by simp)).cell 1, (hX.blk hb (by simp)).lt, a2, c2, e2⟩⟩
        obtain ⟨d1, hb2l, a2, c2, rfl⟩ := hb2c _ (Mod.refl [] w4).drew
        have hS2 : Hid (∀ X, Mod [] w4 X → X.cell? ⟨b2, 1, none⟩ = some (.slice a2 l2.length c2)) := fun X hX => (hb2c X hX).1
        clear hb2c
        have hadd : ¬ (9223372036854775807 < lo.size + 1) := by omega
        go_upto_region 10 with (fail)
        go_region_held3 (fun X => Mod [] w4 X ∧ X.cell? ⟨b2, 1, none⟩ = some (.slice a2 l2.length c2))
          (first | exact ⟨(Mod.refl [] w4).drew, d1⟩ | assumption | exact ⟨Mod.tr (And.left ‹Mod [] w4 _ ∧ _›) hm, hS2.out _ (Mod.tr (And.left ‹Mod [] w4 _ ∧ _›) hm)⟩ | fail)
          (first
            | (go_at_call 12; (with_reducible refine (len_c _ b1 most l2 L2 (Keep.mod HL2.out (And.left ‹Mod [] w4 _ ∧ _›) (by simp))).mono ?_); rintro e X ⟨rfl, hm⟩)
            | (go_at_call 13; (with_reducible refine (max_c _ b1 most l2 _ L2 (Keep.mod HL2.out (And.left ‹Mod [] w4 _ ∧ _›) (by simp))).mono ?_); rintro e X ⟨rfl, hm⟩)
            | (go_at_call 14; (with_reducible refine (rmax_c _ b2 most l2 _ L1 (Keep.mod HL1.out (And.left ‹Mod [] w4 _ ∧ _›) (by simp)) hl2n).mono ?_); rintro e X ⟨rfl, hm⟩)
            | fail)
        have hT4 := hid (hT3.out.mod (And.left ‹Mod [] w4 _ ∧ _›))
        clear hT3 HL1 HL2 hS2 d1 hb2l hadd
        go_wp2
        obtain ⟨og, rfl⟩ : ∃ og, og = gk := ⟨_, rfl⟩
        go_loopg [12] 11 (fun g q wr => ∃ j : Nat, q = .int .i64 j ∧ j + g = 11 ∧ j ≤ ks.length ∧ Hid (Top w (star (refR b2 most l2) (star (spanR b1 most l2) emp)) wr))
        · exact ⟨0, rfl, by omega, by omega, hT4⟩
        · clear hT4
          obtain ⟨j, rfl, hjg, hjk, hT5⟩ := hrel
          by_cases hlt : j < ks.length ∧ j < 10
          · obtain ⟨hj1, hj2⟩ := hlt
            have hji : (j : Int) < (ks.length : Int) := by omega
            have hji2 : (j : Int) < 10 := by omega
            obtain ⟨y, hy⟩ : ∃ y, ks[j]? = some y := ⟨_, List.getElem?_eq_getElem hj1⟩
            have hy1 := Hks.out y (List.mem_of_getElem? hy)
            obtain ⟨kb, koff, rfl, _⟩ := HKS.out.at hy
            have hC2 : Hid (∀ X, Mod [] wr X → X.cell? ⟨kb, koff + j, none⟩ = some (.string y)) := by
              intro X hX
              obtain ⟨_, _, e, hc⟩ := (HKS.out.mod (hT5.out.m.tr hX)).at hy
              simp only [Option.some.injEq, Addr.mk.injEq, and_true] at e
              obtain ⟨rfl, rfl⟩ := e
              have := hc 0 _ rfl
              rw [Nat.mul_one, Nat.add_zero] at this
              exact this
            have k0 := hC2.out _ (Mod.refl [] wr).drew
            obtain ⟨L1, hL1⟩ := top_ref hT5.out
            obtain ⟨L2, hL2⟩ := top_span hT5.out.drop
            have HL1 := hid hL1
            have HL2 := hid hL2
            clear hL1 hL2 hy
            go_upto_region 15 with (fail)
            go_region_held3 (fun X => Mod [] wr X ∧ X.cell? ⟨kb, koff + j, none⟩ = some (.string y))
              (first | exact ⟨(Mod.refl [] wr).drew, k0⟩ | assumption | exact ⟨Mod.tr (And.left ‹Mod [] wr _ ∧ _›) hm, hC2.out _ (Mod.tr (And.left ‹Mod [] wr _ ∧ _›) hm)⟩ | fail)
              (first
                | (go_at_call 9; (with_reducible refine (short_c _ _ hy1).mono ?_); rintro e w' ⟨rfl, rfl⟩)
                | (go_at_call 13; (with_reducible refine (max_c _ b1 most l2 _ L2 (Keep.mod HL2.out (And.left ‹Mod [] wr _ ∧ _›) (by simp))).mono ?_); rintro e X ⟨rfl, hm⟩)
                | (go_at_call 14; (with_reducible refine (rmax_c _ b2 most l2 _ L1 (Keep.mod HL1.out (And.left ‹Mod [] wr _ ∧ _›) (by simp)) hl2n).mono ?_); rintro e X ⟨rfl, hm⟩)
                | fail)
            have hT6 := hid (hT5.out.mod (And.left ‹Mod [] wr _ ∧ _›))
            clear hT5 HL1 HL2 hC2 k0
            go_wp2
            go_roundg (gk - 1)
            case measure => omega
            case rel => exact ⟨j + 1, by go_num, by omega, by omega, hT6⟩
          · have hT6 := hid hT5.out
            clear hT5
            rcases Nat.lt_or_ge j ks.length with hj1 | hj1
            · have hji : (j : Int) < (ks.length : Int) := by omega
              have hji2 : ¬ (j : Int) < 10 := by omega
              clear hlt
              go_wp2
              go_roundg (og - 1)
              case measure => omega
              case rel => exact ⟨k + 1, l2, by go_num, by omega, by omega, hl2k, hSr, hT6⟩
            · have hji : ¬ (j : Int) < (ks.length : Int) := by omega
              clear hlt
              go_wp2
              go_roundg (og - 1)
              case measure => omega
              case rel => exact ⟨k + 1, l2, by go_num, by omega, by omega, hl2k, hSr, hT6⟩
      · rcases Nat.lt_or_ge k xs.length with hk1 | hk1
        · have hki : (k : Int) < (xs.length : Int) := by omega
          have hki2 : ¬ (k : Int) < 80 := by omega
          clear hlt
          go_wp2_with fail
          refine (hT.out.read (works_c _)).mono ?_
          rintro e w5 ⟨rfl, h⟩
          have hT7 := hid h
          clear h hT
          go_wp2
          go_ret
          exact ⟨rfl, hT7.out.m⟩
        · have hki : ¬ (k : Int) < (xs.length : Int) := by omega
          clear hlt
          go_wp2_with fail
          refine (hT.out.read (works_c _)).mono ?_
          rintro e w5 ⟨rfl, h⟩
          have hT7 := hid h
          clear h hT
          go_wp2
          go_ret
          exact ⟨rfl, hT7.out.m⟩

end Go.Proofs.Ytkacjggjmdndaaa
