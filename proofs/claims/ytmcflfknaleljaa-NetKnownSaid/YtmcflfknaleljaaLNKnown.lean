/- The law NetKnown, walked. -/
import Derived.Test.YtmcflfknaleljaaO2
import Derived.Test.YtmcflfknaleljaaO4
namespace Go.Proofs.Ytmcflfknaleljaa
set_option linter.unusedVariables false
set_option linter.unusedSimpArgs false
open Go.RowKit

def kF (i : Nat) : Fr := ⟨((i % 2 : Nat) : Int), ⟨#[120]⟩⟩
def kL (n : Nat) : List Fr := (List.range n).map kF

theorem k_putE (n : Nat) (h : n < 400) : putE (kL n) (kF n) = 0 := by
  have e : (⟨#[120]⟩ : ByteArray).toList = [120] := by decide +kernel
  have : n % 2 < 2 := Nat.mod_lt _ (by decide)
  simp only [putE, kF, kL, List.length_map, List.length_range, e, List.isEmpty_cons, Bool.false_eq_true, or_false]
  rw [if_neg (by omega), if_neg (by omega)]
theorem k_putL (n : Nat) (h : n < 400) : putL (kL n) (kF n) = kL (n + 1) := by
  have e : (⟨#[120]⟩ : ByteArray).toList = [120] := by decide +kernel
  have : n % 2 < 2 := Nat.mod_lt _ (by decide)
  have hl : (kL n).length = n := by simp [kL]
  unfold putL
  rw [hl, if_neg (by simp only [kF, e, List.isEmpty_cons, Bool.false_eq_true, or_false]; omega), if_neg (by omega)]
  simp [kL, List.range_succ]

def fY : Fr := ⟨0, ⟨#[121]⟩⟩
def fM : Fr := ⟨-1, ⟨#[97]⟩⟩

set_option maxRecDepth 100000 in
set_option maxHeartbeats 4000000 in
theorem known_c (w : World) : Calls Try.prog 6 #[] w fun e w' => e = .returned (.bool true) ∧ Mod [] w w' := by
  go_enter Try.func6, Try.ntmps6
  go_wp2_with fail
  refine (new_t (Top.start w)).mono ?_
  rintro e w1 ⟨rfl, h⟩
  have h1 := hid h
  clear h
  go_wp2
  generalize w.heap.size = n at *
  go_loopg [3] 400 (fun g i wr => ∃ (k : Nat), i = .int .i64 k ∧ k + g = 400 ∧ Hid (Top w (star (bag 51 n (kL k)) emp) wr))
  · exact ⟨0, rfl, by omega, h1⟩
  · obtain ⟨k, rfl, hk, hT⟩ := hrel
    clear h1
    by_cases hlt : k < 400
    · have hmod : Int.tmod (k : Int) 2 = ((k % 2 : Nat) : Int) := rfl
      have e1 := k_putE k hlt
      have e2 := k_putL k hlt
      have E1 := hid e1
      have E2 := hid e2
      clear e1 e2
      go_wp2_with fail
      refine (hT.out.read (to_c _ _ ⟨#[120]⟩)).mono ?_
      rintro e w2 ⟨rfl, h⟩
      have h2 := hid h
      clear h
      go_wp2_with fail
      refine (put_t h2.out (kF k)).mono ?_
      rintro e w3 ⟨rfl, h⟩
      rw [E1.out]
      rw [E2.out] at h
      have h3 := hid h
      clear h
      go_wp2
      go_roundg (gk - 1)
      case measure => omega
      case rel => exact ⟨k + 1, by go_num, by omega, h3⟩
    · have hk4 : k = 400 := by omega
      subst hk4
      clear hlt
      go_wp2_with fail
      refine (hT.out.read (to_c _ _ ⟨#[121]⟩)).mono ?_
      rintro e w2 ⟨rfl, h⟩
      have h2 := hid h
      clear h hT
      go_wp2_with fail
      refine (put_t h2.out fY).mono ?_
      rintro e w3 ⟨rfl, h⟩
      rw [show putE (kL 400) fY = 7 by decide +kernel]
      have hP : Hid (putL (kL 400) fY = kL 400) := by
        show _ = _
        unfold putL
        rw [if_neg (by decide +kernel), if_pos (by simp [kL])]
      rw [hP.out] at h
      have h3 := hid h
      clear h h2 hP
      go_wp2_with fail
      refine (twice_t h3.out 0 (by decide) (by decide)).mono ?_
      rintro e w4 ⟨rfl, h⟩
      rw [show twE (kL 400) 0 = 7 by decide +kernel]
      have h4 := hid h
      clear h h3
      have hA : Hid (twL (kL 400) 0 = kL 400) := by
        show _ = _
        unfold twL
        rw [if_pos (by decide +kernel)]
        unfold putL
        rw [if_neg (by decide +kernel), if_pos (by simp [kL])]
      rw [hA.out] at h4
      clear hA
      go_wp2_with fail
      refine (drop_t h4.out 399 (by simp [kL]) (by decide) (by decide)).mono ?_
      rintro e w5 ⟨rfl, h⟩
      rw [show atE (kL 400) 399 = 0 by decide +kernel]
      have h5 := hid h
      clear h h4
      go_wp2_with fail
      refine (twice_t h5.out 0 (by decide) (by decide)).mono ?_
      rintro e w6 ⟨rfl, h⟩
      rw [show twE (dropF (kL 400) 399) 0 = 0 by decide +kernel]
      have hG : Hid ((twL (dropF (kL 400) 399) 0).length = 400) := by show _ = _; decide +kernel
      have h6 := hid h
      clear h h5
      generalize twL (dropF (kL 400) 399) 0 = fs at *
      have nb : ∀ i : Int, i < 0 ∨ 400 ≤ i → ¬ inb fs i := by
        intro i hi h
        have := hG.out
        obtain ⟨h1, h2⟩ := h
        omega
      have a1 : Hid (atE fs 400 = 5) := by show _ = _; unfold atE; rw [if_neg (nb _ (by decide))]
      have a2 : Hid (atE fs (-1) = 5) := by show _ = _; unfold atE; rw [if_neg (nb _ (by decide))]
      have a3 : Hid (atF fs 400 = ⟨0, ⟨#[]⟩⟩) := by show _ = _; unfold atF; rw [if_neg (nb _ (by decide))]
      have a4 : Hid (atF fs (-1) = ⟨0, ⟨#[]⟩⟩) := by show _ = _; unfold atF; rw [if_neg (nb _ (by decide))]
      have a5 : Hid (dropF fs (-1) = fs) := by show _ = _; unfold dropF; rw [if_neg (nb _ (by decide))]
      have a6 : Hid (twE fs 400 = 5) := by show _ = _; unfold twE; rw [if_neg (nb _ (by decide))]
      have a7 : Hid (twL fs 400 = fs) := by show _ = _; unfold twL; rw [if_neg (nb _ (by decide))]
      have a8 : Hid (putE fs fM = 2) := by show _ = _; unfold putE; rw [if_pos (Or.inl (by decide))]
      clear nb
      go_wp2_with fail
      refine (at_t h6.out 400 (by decide) (by decide)).mono ?_
      rintro e w7 ⟨rfl, h⟩
      rw [a1.out, a3.out]
      have h7 := hid (h.alloc (.cells #[.int .i64 0, .string ⟨#[]⟩] 30))
      clear h h6
      go_wp2_with fail
      refine (at_t h7.out (-1) (by decide) (by decide)).mono ?_
      rintro e w8 ⟨rfl, h⟩
      rw [a2.out, a4.out]
      have h8 := hid (h.alloc (.cells #[.int .i64 0, .string ⟨#[]⟩] 30))
      clear h h7
      go_wp2_with fail
      refine (h8.out.read (at_nil _ 0)).mono ?_
      rintro e w9 ⟨rfl, h⟩
      have h9 := hid (h.alloc (.cells #[.int .i64 0, .string ⟨#[]⟩] 30))
      clear h h8
      go_wp2_with fail
      refine (h9.out.read (take_nil _ 0)).mono ?_
      rintro e w10 ⟨rfl, h⟩
      have h10 := hid (h.alloc (.cells #[.int .i64 0, .string ⟨#[]⟩] 30))
      clear h h9
      go_wp2_with fail
      refine (h10.out.read (works_c _)).mono ?_
      rintro e w11 ⟨rfl, h⟩
      have h11 := hid h
      clear h h10
      go_wp2_with fail
      refine (len_t h11.out).mono ?_
      rintro e w12 ⟨rfl, rfl⟩
      rw [show (fs.length : Int) = 400 by rw [hG.out]; rfl]
      go_wp2_with fail
      refine (h11.out.read (to_c _ 0 ⟨#[97]⟩)).mono ?_
      rintro e w12 ⟨rfl, h⟩
      have h12 := hid h
      clear h h11
      go_wp2_with fail
      refine (h12.out.read (put_nil _ _ _)).mono ?_
      rintro e w13 ⟨rfl, h⟩
      have h13 := hid h
      clear h h12
      go_wp2_with fail
      refine (h13.out.read (len_nil _)).mono ?_
      rintro e w14 ⟨rfl, h⟩
      have h14 := hid h
      clear h h13
      go_wp2_with fail
      refine (h14.out.read (twice_nil _ _)).mono ?_
      rintro e w15 ⟨rfl, h⟩
      have h15 := hid h
      clear h h14
      go_wp2_with fail
      refine (h15.out.read (drop_nil _ _)).mono ?_
      rintro e w16 ⟨rfl, h⟩
      have h16 := hid h
      clear h h15
      go_wp2_with fail
      refine (drop_t h16.out (-1) (by rw [hG.out]; decide) (by decide) (by decide)).mono ?_
      rintro e w17 ⟨rfl, h⟩
      rw [a2.out]
      rw [a5.out] at h
      have h17 := hid h
      clear h h16
      go_wp2_with fail
      refine (twice_t h17.out 400 (by decide) (by decide)).mono ?_
      rintro e w18 ⟨rfl, h⟩
      rw [a6.out]
      rw [a7.out] at h
      have h18 := hid h
      clear h h17
      go_wp2_with fail
      refine (h18.out.read (to_c _ (-1) ⟨#[97]⟩)).mono ?_
      rintro e w19 ⟨rfl, h⟩
      have h19 := hid h
      clear h h18
      go_wp2_with fail
      refine (put_t h19.out fM).mono ?_
      rintro e w20 ⟨rfl, h⟩
      rw [a8.out]
      have h20 := hid h
      clear h h19
      go_wp2
      go_ret
      exact ⟨rfl, h20.out.m⟩

end Go.Proofs.Ytmcflfknaleljaa
