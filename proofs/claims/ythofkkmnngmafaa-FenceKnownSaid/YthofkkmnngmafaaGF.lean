/- FenceKnown: the walk. -/
import Derived.Test.YthofkkmnngmafaaGE
namespace Go.Proofs.Ythofkkmnngmafaa
set_option linter.unusedVariables false
set_option linter.unusedSimpArgs false
set_option linter.unusedSectionVars false
open Go.RowKit

theorem Hld.nil {w w' : World} (hm : Mod [] w w') : Hld w [] emp w' := ⟨[], rfl, hm, by simp⟩
/-- A slice that is written out. -/
theorem lx_lit {X : Type} {c : X → List Value} {u : X → Value} (hc : ∀ x, c x = [u x]) {w : World} {b n : Nat} {l : List X} {T : TypeId} (h : Blk w b (l.map u).toArray T) (hn : l.length = n) (hl : n ≤ 1000) : Lx 1 c w (.slice (some ⟨b, 0, none⟩) n n) l := by
  subst hn
  refine ⟨_, _, rfl, Or.inr ⟨b, 0, rfl, fun i x hx j v hj => ?_⟩, by omega⟩
  rw [hc] at hj
  cases j with
  | succ j => simp at hj
  | zero =>
    simp at hj
    subst hj
    rw [show 0 + i * 1 + 0 = i by omega, h.cell]
    simp [hx]
theorem wk_more : insAnsL wk3.lv ⟨#[109]⟩ 5 = 2 ∧ insAnsL wk3.lv ⟨#[120]⟩ 8 = 2 ∧ insAnsL wk3.lv ⟨#[120]⟩ 0 = 2 ∧ insAnsL wk3.lv ⟨#[]⟩ 5 = 2 ∧ insAnsL wk3.lv ⟨#[49, 50, 51, 52, 53, 54, 55, 56, 57, 48, 49, 50, 51, 52, 53, 54, 55]⟩ 5 = 2 ∧ remAnsL wk3.lv ⟨#[99]⟩ = 5 ∧ remAnsL wk3.lv ⟨#[]⟩ = 5 ∧ findL (fe0 7).lv ⟨#[97]⟩ = 7 := by
  rw [wk_lv.2.2]
  decide +kernel
theorem wk_d : (fe0 7).d = 0 ∧ wk1.d = 1 := by decide +kernel
theorem ins_same {f : Fc} {s : ByteArray} {p : Nat} (h : insAnsL f.lv s p ≠ 0) : insFF f s p = f := if_neg h
theorem rem_same {f : Fc} {s : ByteArray} (h : remAnsL f.lv s ≠ 0) : remFF f s = f := by
  unfold remFF
  split
  · rename_i hm; exact absurd (if_pos hm) h
  · rfl

set_option maxRecDepth 100000 in
set_option maxHeartbeats 8000000 in
theorem known_walk (w : World) :
    Calls Try.prog 8 #[] w fun e w' => e = .returned (.bool true) ∧ Mod [] w w' := by
  have H0 : Hld w [] emp w := Hld.start rfl
  have S := hid wk_said
  have M := hid wk_more
  have LV := hid wk_lv
  have DD := hid wk_d
  have OK := hid wk_ok
  have hF0 := hid (Fok.one (p := 7) (by decide) (by decide))
  go_enter Try.func8, Try.ntmps8
  go_wp2_with fail
  refine (new_h H0 7 (by decide)).mono ?_
  rintro e w1 ⟨rfl, H1⟩
  obtain ⟨fb, hfb⟩ : ∃ fb, fb = w.heap.size := ⟨_, rfl⟩
  rw [← hfb] at H1 ⊢
  have H1 := hid H1
  clear H0 hfb
  go_wp2_with fail
  refine (find_h H1.out hF0.out ⟨#[97]⟩).mono ?_
  rintro e w2 ⟨rfl, H2⟩
  rw [M.out.2.2.2.2.2.2.2]
  have H2 := hid H2
  clear H1
  go_wp2_with fail
  refine (depth_h H2.out hF0.out).mono ?_
  rintro e w2' ⟨rfl, rfl⟩
  rw [DD.out.1]
  go_wp2_with fail
  refine (ins_h H2.out hF0.out ⟨#[109]⟩ 8 (by decide)).mono ?_
  rintro e w3 ⟨rfl, H3⟩
  rw [S.out.1]
  have H3 : Hid (Hld w [] (star (feR fb wk1) emp) w3) := H3
  clear H2
  go_wp2_with fail
  refine (depth_h H3.out OK.out.1).mono ?_
  rintro e w2' ⟨rfl, rfl⟩
  rw [DD.out.2]
  go_wp2_with fail
  refine (ins_h H3.out OK.out.1 ⟨#[99]⟩ 9 (by decide)).mono ?_
  rintro e w4 ⟨rfl, H4⟩
  rw [S.out.2.1]
  have H4 : Hid (Hld w [] (star (feR fb wk2) emp) w4) := H4
  clear H3
  go_wp2_with fail
  refine (pids_h H4.out OK.out.2.1).mono ?_
  rintro e w5 ⟨v, rfl, H5⟩
  have hb5 := hid (H5.mod ((Mod.refl [] w5).alloc (.cells #[.int .u64 7, .int .u64 9, .int .u64 8] 26)))
  have hl5 := row_lx hb5.out
  rw [LV.out.2.1] at hl5
  have hp5 := hid (lpids_c _ v _ _ [7, 9, 8] hl5 (lx_lit (u := fun p => .int .u64 (p : Nat)) (fun _ => rfl) (Blk.new w5 _ 26) rfl (by decide)))
  rw [decide_eq_true (by rfl)] at hp5
  clear H4 hl5 H5
  go_wp2_with fail
  refine hp5.out.mono ?_
  rintro e w6 ⟨rfl, hm⟩
  have H6 := hid (hb5.out.drop.mod hm)
  clear hp5 hb5 hm
  go_wp2_with fail
  refine (seps_h H6.out OK.out.2.1).mono ?_
  rintro e w7 ⟨v7, rfl, H7⟩
  have hb7 := hid (H7.mod ((Mod.refl [] w7).alloc (.cells #[.string ⟨#[99]⟩, .string ⟨#[109]⟩] 9)))
  have hl7 := seg_lx hb7.out (by rw [LV.out.2.1]; decide)
  rw [LV.out.2.1] at hl7
  have hp7 := hid (texts_c _ v7 _ _ [⟨#[99]⟩, ⟨#[109]⟩] hl7 (lx_lit (u := fun p => .string p) (fun _ => rfl) (Blk.new w7 _ 9) rfl (by decide)))
  rw [decide_eq_true (by rfl)] at hp7
  clear H6 hl7 H7
  go_wp2_with fail
  refine hp7.out.mono ?_
  rintro e w8 ⟨rfl, hm⟩
  have H8 := hid (hb7.out.drop.mod hm)
  clear hp7 hb7 hm
  go_wp2_with fail
  refine (rem_h H8.out OK.out.2.1 ⟨#[99]⟩).mono ?_
  rintro e w9 ⟨rfl, H9⟩
  rw [S.out.2.2.2.2.2.1]
  have H9 : Hid (Hld w [] (star (feR fb wk3) emp) w9) := H9
  clear H8
  go_wp2_with fail
  refine (rem_h H9.out OK.out.2.2 ⟨#[99]⟩).mono ?_
  rintro e w10 ⟨rfl, H10⟩
  rw [M.out.2.2.2.2.2.1]
  rw [rem_same (by rw [M.out.2.2.2.2.2.1]; decide)] at H10
  have H10 := hid H10
  clear H9
  go_wp2_with fail
  refine (rem_h H10.out OK.out.2.2 ⟨#[]⟩).mono ?_
  rintro e w11 ⟨rfl, H11⟩
  rw [M.out.2.2.2.2.2.2.1]
  rw [rem_same (by rw [M.out.2.2.2.2.2.2.1]; decide)] at H11
  have H11 := hid H11
  clear H10
  go_wp2_with fail
  refine (ins_h H11.out OK.out.2.2 ⟨#[109]⟩ 5 (by decide)).mono ?_
  rintro e w12 ⟨rfl, H12⟩
  rw [M.out.1]
  rw [ins_same (by rw [M.out.1]; decide)] at H12
  have H12 := hid H12
  clear H11
  go_wp2_with fail
  refine (ins_h H12.out OK.out.2.2 ⟨#[120]⟩ 8 (by decide)).mono ?_
  rintro e w13 ⟨rfl, H13⟩
  rw [M.out.2.1]
  rw [ins_same (by rw [M.out.2.1]; decide)] at H13
  have H13 := hid H13
  clear H12
  go_wp2_with fail
  refine (ins_h H13.out OK.out.2.2 ⟨#[120]⟩ 0 (by decide)).mono ?_
  rintro e w14 ⟨rfl, H14⟩
  rw [M.out.2.2.1]
  rw [ins_same (by rw [M.out.2.2.1]; decide)] at H14
  have H14 := hid H14
  clear H13
  go_wp2_with fail
  refine (ins_h H14.out OK.out.2.2 ⟨#[]⟩ 5 (by decide)).mono ?_
  rintro e w15 ⟨rfl, H15⟩
  rw [M.out.2.2.2.1]
  rw [ins_same (by rw [M.out.2.2.2.1]; decide)] at H15
  have H15 := hid H15
  clear H14
  go_wp2_with fail
  refine (ins_h H15.out OK.out.2.2 ⟨#[49, 50, 51, 52, 53, 54, 55, 56, 57, 48, 49, 50, 51, 52, 53, 54, 55]⟩ 5 (by decide)).mono ?_
  rintro e w16 ⟨rfl, H16⟩
  rw [M.out.2.2.2.2.1]
  rw [ins_same (by rw [M.out.2.2.2.2.1]; decide)] at H16
  have H16 := hid H16
  clear H15
  have hMM := hid H16.out.m
  clear H16
  go_wp2
  go_loopg [2] 2 (fun g q wr => ∃ t : Nat, q = .int .i64 t ∧ t + g = 2 ∧ Hid (Mod [] w wr))
  · exact ⟨0, rfl, rfl, hMM⟩
  · clear hMM
    obtain ⟨t, rfl, htg, hM⟩ := hrel
    obtain ⟨G, hG⟩ : ∃ G, G = gk := ⟨_, rfl⟩
    have hG := hid hG
    by_cases ht : t < 2
    · have ht1 : (t : Int) < 2 := by omega
      go_wp2_with fail
      refine (new_h (Hld.nil hM.out) 1 (by decide)).mono ?_
      rintro e w30 ⟨rfl, H30⟩
      obtain ⟨gb, hgb⟩ : ∃ gb, gb = wr.heap.size := ⟨_, rfl⟩
      rw [← hgb] at H30 ⊢
      have H30 := hid H30
      clear hgb hM
      go_wp2
      go_loopg [4] 59 (fun g q wr => ∃ (i : Nat) (f : Fc), q = .int .i64 i ∧ i + g = 59 ∧ Hid (Up f (fun j => ∃ i', i' < i ∧ j = if t = 1 then 58 - i' else i') ∧ f.lv.length = i + 1) ∧ Hid (Hld w [] (star (feR gb f) emp) wr))
      · exact ⟨0, fe0 1, rfl, rfl, ⟨Up.start.congr (fun j => by simp), rfl⟩, H30⟩
      · clear H30
        obtain ⟨i, f, rfl, hig, hF, hH⟩ := hrel
        by_cases hi : i < 59
        · have hi1 : (i : Int) < 59 := by omega
          obtain ⟨k, hk⟩ : ∃ k, k = if t = 1 then 58 - i else i := ⟨_, rfl⟩
          have hk59 : k < 59 := by rw [hk]; split <;> omega
          have hS : ¬ ∃ i', i' < i ∧ k = if t = 1 then 58 - i' else i' := by
            rintro ⟨i', h1, h2⟩
            rw [hk] at h2
            split at h2 <;> omega
          obtain ⟨u1, u2, u3⟩ := hF.out.1.ins hk59 hS (by have := hF.out.2; omega)
          have U2 := u2.congr (T := fun j => ∃ i', i' < i + 1 ∧ j = if t = 1 then 58 - i' else i') (fun j => by
            constructor
            · rintro (⟨i', h1, h2⟩ | rfl)
              · exact ⟨i', by omega, h2⟩
              · exact ⟨i, by omega, hk⟩
            · rintro ⟨i', h1, h2⟩
              rcases (by omega : i' < i ∨ i' = i) with h | rfl
              · exact Or.inl ⟨i', h, h2⟩
              · exact Or.inr (h2.trans hk.symm))
          have HN := hid (⟨u1, U2, by have := hF.out.2; omega⟩ : _ ∧ _ ∧ (insFF f (keyK k) (2 + k)).lv.length = i + 1 + 1)
          have hkey : keyK k = two (97 + k / 10) (48 + k % 10) := rfl
          obtain ⟨a, ha⟩ : ∃ a, a = k / 10 := ⟨_, rfl⟩
          obtain ⟨b, hb⟩ : ∃ b, b = k % 10 := ⟨_, rfl⟩
          rw [← ha, ← hb] at hkey
          have hq1 : (k : Int) / 10 = (a : Int) := by omega
          have hq2 : (k : Int) % 10 = (b : Int) := by omega
          have hu1 : IntKind.u8.wrap (a : Int) = (a : Int) := by rw [IntKind.wrap_u8]; omega
          have hu2 : IntKind.u8.wrap (97 + (a : Int)) = 97 + (a : Int) := by rw [IntKind.wrap_u8]; omega
          have hu3 : IntKind.u8.wrap (b : Int) = (b : Int) := by rw [IntKind.wrap_u8]; omega
          have hu4 : IntKind.u8.wrap (48 + (b : Int)) = 48 + (b : Int) := by rw [IntKind.wrap_u8]; omega
          have hu5 : IntKind.u64.wrap (2 + (k : Int)) = 2 + (k : Int) := by rw [IntKind.wrap_u64]; omega
          have hHK := hid hkey
          have hcut1 : Hid ((t = 0 ∧ k = i) ∨ (t = 1 ∧ (k : Int) = 58 - (i : Int))) := by
            rcases (by omega : t = 0 ∨ t = 1) with rfl | rfl
            · exact Or.inl ⟨rfl, by rw [hk]; rfl⟩
            · exact Or.inr ⟨rfl, by rw [hk, if_pos rfl]; omega⟩
          have hFok := hid hF.out.1.ok
          clear u1 u2 u3 U2 hS hk ha hb hkey hF
          go_upto_if 106 with (fail)
          go_cut [5] from 104 to 108 (fun p wx => p = .int .i64 (k : Nat) ∧ Hid (wr = wx))
          case first =>
            rcases hcut1.out with ⟨rfl, rfl⟩ | ⟨rfl, hki⟩
            · go_wp2_with fail
              go_meet
              exact ⟨rfl, rfl⟩
            · go_wp2_with fail
              go_meet
              exact ⟨by rw [hki], rfl⟩
          case rest =>
            obtain ⟨rfl, hw⟩ := hcut
            obtain rfl := hw.out
            have hcv : (convert 48 9 (.slice (some ⟨wr.heap.size, 0, none⟩) 2 2)).run Try.prog (wr.alloc (.cells #[.int .u8 (97 + (a : Int)), .int .u8 (48 + (b : Int))] 5)) = .ok (.string (keyK k)) (wr.alloc (.cells #[.int .u8 (97 + (a : Int)), .int .u8 (48 + (b : Int))] 5)) := by
              rw [hHK.out]
              exact conv_two wr (97 + a) (48 + b)
            have hH2 := hid (hH.out.mod ((Mod.refl [] wr).alloc (.cells #[.int .u8 (97 + (a : Int)), .int .u8 (48 + (b : Int))] 5)))
            have hins := ins_h hH2.out hFok.out (keyK k) (2 + k) (by show 2 ≤ 9223372036854775807; omega)
            rw [show ((2 + k : Nat) : Int) = 2 + (k : Int) by omega] at hins
            go_wp2_with fail
            refine hins.mono ?_
            rintro e w31 ⟨rfl, H31⟩
            rw [HN.out.1]
            have H31 := hid H31
            clear hins hH2 hcv hH
            go_wp2
            go_roundg (gk - 1)
            case measure => omega
            case rel => exact ⟨i + 1, _, by go_num, by omega, ⟨HN.out.2.1, HN.out.2.2⟩, H31⟩
        · have hi1 : ¬ (i : Int) < 59 := by omega
          have hi59 : i = 59 := by omega
          have hF2 : Up f (fun j => ∃ i', i' < 59 ∧ j = if t = 1 then 58 - i' else i') ∧ f.lv.length = 59 + 1 := by rw [← hi59]; exact hF.out
          have U := hF2.1.congr (T := fun j => j < 59) (fun j => by
            constructor
            · rintro ⟨i', h1, rfl⟩
              split <;> omega
            · intro hj
              rcases (by omega : t = 0 ∨ t = 1) with rfl | rfl
              · exact ⟨j, hj, rfl⟩
              · exact ⟨58 - j, by omega, by rw [if_pos rfl]; omega⟩)
          obtain ⟨f1, f2, f3, f4, f5, f6, f7⟩ := U.full hF2.2
          have FF := hid (⟨f1, f4, f5, f6, f7⟩ : _ ∧ _ ∧ _ ∧ _ ∧ _)
          have HU := hid U
          have d1 : ¬ (f.d : Int) < 3 := by omega
          have d2 : ¬ 5 < (f.d : Int) := by omega
          clear f1 f2 f3 f4 f5 f6 f7 U hF hF2 hig hi hi59
          go_wp2_with fail
          refine (ins_h hH.out HU.out.ok ⟨#[122]⟩ 99 (by decide)).mono ?_
          rintro e w31 ⟨rfl, H31⟩
          rw [FF.out.1]
          rw [ins_same (by rw [FF.out.1]; decide)] at H31
          have H31 := hid H31
          clear hH
          go_wp2_with fail
          refine (depth_h H31.out HU.out.ok).mono ?_
          rintro e w2' ⟨rfl, rfl⟩
          go_wp2_with fail
          refine (depth_h H31.out HU.out.ok).mono ?_
          rintro e w2' ⟨rfl, rfl⟩
          go_wp2_with fail
          refine (find_h H31.out HU.out.ok ⟨#[99, 53]⟩).mono ?_
          rintro e w32 ⟨rfl, H32⟩
          rw [FF.out.2.1]
          have H32 := hid H32
          clear H31
          go_wp2_with fail
          refine (find_h H32.out HU.out.ok ⟨#[99, 53, 120]⟩).mono ?_
          rintro e w33 ⟨rfl, H33⟩
          rw [FF.out.2.2.1]
          have H33 := hid H33
          clear H32
          go_wp2_with fail
          refine (find_h H33.out HU.out.ok ⟨#[122, 122]⟩).mono ?_
          rintro e w34 ⟨rfl, H34⟩
          rw [FF.out.2.2.2.1]
          have H34 := hid H34
          clear H33
          go_wp2_with fail
          refine (find_h H34.out HU.out.ok ⟨#[]⟩).mono ?_
          rintro e w35 ⟨rfl, H35⟩
          rw [show findL f.lv ⟨#[]⟩ = 1 from FF.out.2.2.2.2]
          have H35 := hid H35
          clear H34 FF
          go_wp2
          clear d1 d2
          go_loopg [6] 59 (fun g q wr => ∃ (i : Nat) (f : Fc), q = .int .i64 i ∧ i + g = 59 ∧ Hid (Up f (fun j => j < 59 ∧ ∀ i', i' < i → j ≠ i' * 7 % 59)) ∧ Hid (Hld w [] (star (feR gb f) emp) wr))
          · exact ⟨0, f, rfl, rfl, HU.out.congr (fun j => ⟨fun h => ⟨h, fun i' h' => by omega⟩, fun h => h.1⟩), H35⟩
          · clear H35 HU
            obtain ⟨i, f, rfl, hig, hF, hH⟩ := hrel
            by_cases hi : i < 59
            · have hi1 : (i : Int) < 59 := by omega
              obtain ⟨k, hk⟩ : ∃ k, k = i * 7 % 59 := ⟨_, rfl⟩
              have hk59 : k < 59 := by rw [hk]; exact Nat.mod_lt _ (by decide)
              obtain ⟨u1, u2⟩ := hF.out.rem (k := k) ⟨hk59, fun i' h' e => by
                rw [hk] at e
                have := seven_inj hi (by omega) e
                omega⟩
              have U2 := u2.congr (T := fun j => j < 59 ∧ ∀ i', i' < i + 1 → j ≠ i' * 7 % 59) (fun j => by
                constructor
                · rintro ⟨⟨h1, h2⟩, h3⟩
                  refine ⟨h1, fun i' h' => ?_⟩
                  rcases (by omega : i' < i ∨ i' = i) with h | rfl
                  · exact h2 i' h
                  · rw [← hk]; exact h3
                · rintro ⟨h1, h2⟩
                  exact ⟨⟨h1, fun i' h' => h2 i' (by omega)⟩, by rw [hk]; exact h2 i (by omega)⟩)
              have HN := hid (And.intro u1 U2)
              have hki : (i : Int) * 7 % 59 = (k : Int) := by omega
              obtain ⟨a, ha⟩ : ∃ a, a = k / 10 := ⟨_, rfl⟩
              obtain ⟨b, hb⟩ : ∃ b, b = k % 10 := ⟨_, rfl⟩
              have hkey : keyK k = two (97 + k / 10) (48 + k % 10) := rfl
              rw [← ha, ← hb] at hkey
              have hq1 : (k : Int) / 10 = (a : Int) := by omega
              have hq2 : (k : Int) % 10 = (b : Int) := by omega
              have hu1 : IntKind.u8.wrap (a : Int) = (a : Int) := by rw [IntKind.wrap_u8]; omega
              have hu2 : IntKind.u8.wrap (97 + (a : Int)) = 97 + (a : Int) := by rw [IntKind.wrap_u8]; omega
              have hu3 : IntKind.u8.wrap (b : Int) = (b : Int) := by rw [IntKind.wrap_u8]; omega
              have hu4 : IntKind.u8.wrap (48 + (b : Int)) = 48 + (b : Int) := by rw [IntKind.wrap_u8]; omega
              have hHK := hid hkey
              have hFok := hid hF.out.ok
              have hcv : (convert 48 9 (.slice (some ⟨wr.heap.size, 0, none⟩) 2 2)).run Try.prog (wr.alloc (.cells #[.int .u8 (97 + (a : Int)), .int .u8 (48 + (b : Int))] 5)) = .ok (.string (keyK k)) (wr.alloc (.cells #[.int .u8 (97 + (a : Int)), .int .u8 (48 + (b : Int))] 5)) := by
                rw [hHK.out]
                exact conv_two wr (97 + a) (48 + b)
              have hH2 := hid (hH.out.mod ((Mod.refl [] wr).alloc (.cells #[.int .u8 (97 + (a : Int)), .int .u8 (48 + (b : Int))] 5)))
              clear u1 u2 U2 hk ha hb hkey hF hH
              go_wp2_with fail
              refine (rem_h hH2.out hFok.out (keyK k)).mono ?_
              rintro e w41 ⟨rfl, H41⟩
              rw [HN.out.1]
              have H41 := hid H41
              clear hH2 hcv
              go_wp2
              go_roundg (gk - 1)
              case measure => omega
              case rel => exact ⟨i + 1, _, by go_num, by omega, HN.out.2, H41⟩
            · have hi1 : ¬ (i : Int) < 59 := by omega
              have hi59 : i = 59 := by omega
              obtain ⟨e1, e2, e3⟩ := hF.out.empty (fun j hj => by
                obtain ⟨i', h1, h2⟩ := seven.2 j hj.1
                exact hj.2 i' (by omega) h2)
              have EE := hid (⟨e1, e2, e3⟩ : _ ∧ _ ∧ _)
              have hFok := hid hF.out.ok
              clear e1 e2 e3 hF hig hi hi59
              go_wp2_with fail
              refine (depth_h hH.out hFok.out).mono ?_
              rintro e w2' ⟨rfl, rfl⟩
              rw [EE.out.1]
              go_wp2_with fail
              refine (find_h hH.out hFok.out ⟨#[122, 122]⟩).mono ?_
              rintro e w42 ⟨rfl, H42⟩
              rw [EE.out.2.1]
              have H42 := hid H42
              clear hH
              go_wp2_with fail
              refine (img_h H42.out hFok.out).mono ?_
              rintro e w43 ⟨rfl, H43⟩
              rw [EE.out.2.2]
              have H43 := hid H43.m
              clear H42 EE
              go_wp2
              go_roundg (G - 1)
              case measure => have := hG.out; omega
              case rel => exact ⟨t + 1, by go_num, by have := hG.out; omega, H43⟩
    · have ht1 : ¬ (t : Int) < 2 := by omega
      have hb0 := hid (lx_lit (c := stC) (u := fun p => .string p) (fun _ => rfl) (Blk.new wr (noneL.map fun p => Value.string p).toArray 9) (n := 11) rfl (by decide))
      have hMM := hid (hM.out.alloc (.cells (noneL.map fun p => Value.string p).toArray 9))
      obtain ⟨W, hW⟩ : ∃ W, W = wr.alloc (.cells (noneL.map fun p => Value.string p).toArray 9) := ⟨_, rfl⟩
      have HW := hid hW
      rw [← hW] at hb0 hMM
      obtain ⟨nb, hnb⟩ : ∃ nb, nb = wr.heap.size := ⟨_, rfl⟩
      have HNB := hid hnb
      rw [← hnb] at hb0
      clear ht htg hG hM hW hnb
      go_wp2
      rw [show (wr.alloc (.cells #[.string ⟨#[]⟩, .string ⟨#[0]⟩, .string ⟨#[1, 0]⟩, .string ⟨#[2, 1]⟩, .string ⟨#[1, 1, 0]⟩, .string ⟨#[2, 1, 0, 2]⟩, .string ⟨#[2, 1, 1, 97, 1]⟩, .string ⟨#[3, 1, 1, 98, 2, 1, 97, 3]⟩, .string ⟨#[3, 1, 1, 97, 2, 1, 97, 3]⟩, .string ⟨#[2, 1, 1, 97, 0]⟩, .string ⟨#[61, 1]⟩] 9)) = W from HW.out.symm, ← HNB.out]
      go_loopg [193] 11 (fun g q wr2 => ∃ i : Nat, q = .int .i64 i ∧ i + g = 11 ∧ Hid (Mod [] W wr2))
      · exact ⟨0, rfl, rfl, Mod.refl _ _⟩
      · obtain ⟨i, rfl, hig, hM⟩ := hrel
        by_cases hi : i < 11
        · have hi1 : (i : Int) < 11 := by omega
          have hi0 : (0 : Int) ≤ (i : Int) := by omega
          obtain ⟨s, hs⟩ : ∃ s, noneL[i]? = some s := ⟨_, List.getElem?_eq_getElem (show i < noneL.length from hi)⟩
          have hno : parseL s = none := by simpa using noneL_said s (List.mem_of_getElem? hs)
          have hz : s.size ≤ 9223372036854775807 := by
            have : ∀ s ∈ noneL, s.size ≤ 8 := by decide
            have := this s (List.mem_of_getElem? hs)
            omega
          obtain ⟨b', o', eb, c0⟩ := (hb0.out.mod hM.out).cell1 (u := fun s => .string s) (fun _ => rfl) hs
          cases eb
          rw [Nat.zero_add] at c0
          have Hno := hid hno
          clear hs hno
          go_wp2_with fail
          refine (fparse_c wr [] wr s emp (Hld.nil (Mod.refl [] wr)) hz).mono ?_
          intro e w50 hp
          rcases hp with ⟨_, rfl, H50⟩ | ⟨_, g, hp, _⟩
          · have hM2 := hid (hM.out.tr H50.m)
            clear H50 hM
            go_wp2
            go_roundg (gk - 1)
            case measure => omega
            case rel => exact ⟨i + 1, by go_num, by omega, hM2⟩
          · rw [Hno.out] at hp; cases hp
        · have hi1 : ¬ (i : Int) < 11 := by omega
          have hm := hid (hMM.out.tr hM.out)
          clear hM hMM hb0 HW HNB hig hi
          go_wp2_with fail
          refine (fnew_nil wr).mono ?_
          rintro e w51 ⟨rfl, rfl⟩
          go_wp2_with fail
          refine (findN wr ⟨#[97]⟩).mono ?_
          rintro e w51 ⟨rfl, rfl⟩
          go_wp2_with fail
          refine (insN wr ⟨#[97]⟩ 1).mono ?_
          rintro e w51 ⟨rfl, rfl⟩
          go_wp2_with fail
          refine (remN wr ⟨#[97]⟩).mono ?_
          rintro e w51 ⟨rfl, rfl⟩
          go_wp2_with fail
          refine (sepsN wr).mono ?_
          rintro e w52 ⟨rfl, hm2⟩
          have hm := hid (hm.out.tr hm2)
          clear hm2
          go_wp2_with fail
          refine (pidsN w52).mono ?_
          rintro e w53 ⟨rfl, hm2⟩
          have hm := hid (hm.out.tr hm2)
          clear hm2
          go_wp2_with fail
          refine (depthN w53).mono ?_
          rintro e w54 ⟨rfl, rfl⟩
          go_wp2_with fail
          refine (copyN w53).mono ?_
          rintro e w54 ⟨rfl, rfl⟩
          go_wp2_with fail
          refine (imageN w53).mono ?_
          rintro e w54 ⟨rfl, rfl⟩
          go_wp2_with fail
          refine (works_c w53).mono ?_
          rintro e w55 ⟨rfl, hm2⟩
          go_wp2
          go_ret
          exact ⟨rfl, hm.out.tr hm2⟩
end Go.Proofs.Ythofkkmnngmafaa
