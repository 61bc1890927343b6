/- FenceFlat: the walk. -/
import Derived.Test.YthofkkmnngmafaaGB
namespace Go.Proofs.Ythofkkmnngmafaa
set_option linter.unusedVariables false
set_option linter.unusedSimpArgs false
set_option linter.unusedSectionVars false
open Go.RowKit

set_option maxRecDepth 100000 in
set_option maxHeartbeats 8000000 in
theorem flat_walk (a : Option Addr) (cap : Nat) (xs : List Nat) (ka : Option Addr) (kcap : Nat) (ks : List Nat) (w : World) (h : Lx 1 u8C w (.slice a xs.length cap) xs) (hx : ∀ x ∈ xs, x < 256) (hk : Lx 1 u8C w (.slice ka ks.length kcap) ks) (hks : ∀ s ∈ ks, s < 256) :
    Calls Try.prog 7 #[.slice a xs.length cap, .slice ka ks.length kcap] w fun e w' => e = .returned (.bool true) ∧ Mod [] w w' := by
  have hlen := h.len.2
  have hklen := hk.len.2
  have HL := hid h
  have HX := hid hx
  have HK := hid hk
  have HKS := hid hks
  have H0 : Hld w [] emp w := Hld.start rfl
  clear h hx hk hks
  go_enter Try.func7, Try.ntmps7
  go_wp2_with fail
  refine (new_h H0 255 (by decide)).mono ?_
  rintro e w1 ⟨rfl, H1⟩
  obtain ⟨fb, hfb⟩ : ∃ fb, fb = w.heap.size := ⟨_, rfl⟩
  rw [← hfb] at H1 ⊢
  have H1 := hid H1
  clear H0 hfb
  go_wp2
  go_loopg [6] 59 (fun g q wr => ∃ (i : Nat) (f : Fc), q = .int .i64 i ∧ i + g = 59 ∧ i ≤ xs.length ∧ Hid (Fok f) ∧ Hid (Hld w [] (star (feR fb f) emp) wr))
  · exact ⟨0, fe0 255, rfl, rfl, by omega, Fok.one (by decide) (by decide), H1.out⟩
  · clear H1
    obtain ⟨i, f, rfl, hig, hix, hF, hH⟩ := hrel
    obtain ⟨G, hG⟩ : ∃ G, G = gk := ⟨_, rfl⟩
    by_cases hlt : i < xs.length ∧ i < 59
    · obtain ⟨hlt, hlt2⟩ := hlt
      have hp : 0 < xs.length := by omega
      obtain ⟨m, hm⟩ : ∃ m, m = (i + 1) % xs.length := ⟨_, rfl⟩
      have hml : m < xs.length := by rw [hm]; exact Nat.mod_lt _ hp
      obtain ⟨x, hxx⟩ : ∃ x, xs[i]? = some x := ⟨_, List.getElem?_eq_getElem hlt⟩
      obtain ⟨y, hyy⟩ : ∃ y, xs[m]? = some y := ⟨_, List.getElem?_eq_getElem hml⟩
      have hx8 := HX.out x (List.mem_of_getElem? hxx)
      have hy8 := HX.out y (List.mem_of_getElem? hyy)
      have hi1 : (i : Int) < (xs.length : Int) := by omega
      have hi2 : (i : Int) < 59 := by omega
      have hi0 : (0 : Int) ≤ (i : Int) := by omega
      have hm1 : (m : Int) < (xs.length : Int) := by omega
      have hm0 : (0 : Int) ≤ (m : Int) := by omega
      have htm : Int.tmod ((i : Int) + 1) (xs.length : Int) = (m : Int) := by rw [hm]; rfl
      have hl0 : ¬ xs = [] := fun e => by rw [e] at hp; simp at hp
      have hl1 : ¬ (xs.length : Int) = 0 := by omega
      have hw1 : IntKind.i64.wrap ((i : Int) + 1) = (i : Int) + 1 := IntWalk.i64_in _ ⟨by omega, by omega⟩
      obtain ⟨n, hn⟩ : ∃ n : Nat, n = 1 + i := ⟨_, rfl⟩
      have hw3 : IntKind.i64.wrap (m : Int) = (m : Int) := IntWalk.i64_in _ ⟨by omega, by omega⟩
      have hw2 : IntKind.i64.wrap (1 + (i : Int)) = 1 + (i : Int) := IntWalk.i64_in _ ⟨by omega, by omega⟩
      have hw4 : IntKind.u64.wrap (1 + (i : Int)) = 1 + (i : Int) := by rw [IntKind.wrap_u64]; omega
      obtain ⟨ba, oa, rfl, _⟩ := HL.out.cell1 (u := fun n => .int .u8 (n : Nat)) (fun _ => rfl) hxx
      have hC : Hid (∀ X, Mod [] w X → X.cell? ⟨ba, oa + i, none⟩ = some (.int .u8 (x : Nat)) ∧ X.cell? ⟨ba, oa + m, none⟩ = some (.int .u8 (y : Nat))) := by
        intro X hX
        obtain ⟨_, _, e, c0⟩ := (HL.out.mod hX).cell1 (u := fun n => .int .u8 (n : Nat)) (fun _ => rfl) hxx
        obtain ⟨_, _, e', c1⟩ := (HL.out.mod hX).cell1 (u := fun n => .int .u8 (n : Nat)) (fun _ => rfl) hyy
        cases e
        cases e'
        exact ⟨c0, c1⟩
      obtain ⟨c0, c1⟩ := hC.out _ hH.out.drew.m
      have hcv : (convert 48 9 (.slice (some ⟨wr.heap.size, 0, none⟩) 2 2)).run Try.prog (wr.alloc (.cells #[.int .u8 (x : Nat), .int .u8 (y : Nat)] 5)).drew = .ok (.string (two x y)) (wr.alloc (.cells #[.int .u8 (x : Nat), .int .u8 (y : Nat)] 5)).drew := conv_two wr.drew x y
      have hN := hid ((hH.out.mod ((Mod.refl [] wr).alloc (.cells #[.int .u8 (x : Nat), .int .u8 (y : Nat)] 5))).drew)
      have hins := ins_h hN.out hF.out (two x y) n (by rw [two_size]; omega)
      rw [show ((n : Nat) : Int) = 1 + (i : Int) by omega] at hins
      have hins := hid hins
      clear hxx hyy hm
      go_upto_region 7 with (fail)
      go_cut [] from 27 to 45 (fun wx => ∃ f', Hid (Fok f') ∧ Hid (Hld w [] (star (feR fb f') emp) wx))
      case first =>
        go_region_with (go_at_call 12; refine hins.out.mono ?_; rintro e w' ⟨rfl, hm⟩)
        all_goals
          go_wp2_with fail
          go_meet
          exact ⟨_, hF.out.ins _ (by omega), hm⟩
      case rest =>
        obtain ⟨f1, hF1, hH1⟩ := hcut
        have hG := hid hG
        clear hF hH c0 c1 hcv hN hins
        have hFH : ∃ f2, Hid (Fok f2) ∧ Hid (Hld w [] (star (feR fb f2) emp) wc) := ⟨f1, hF1, hH1⟩
        by_cases haw : i < ks.length
        case' pos =>
          clear hFH
          obtain ⟨z, hzz⟩ : ∃ z, ks[i]? = some z := ⟨_, List.getElem?_eq_getElem haw⟩
          have hz8 := HKS.out z (List.mem_of_getElem? hzz)
          have hzi : (i : Int) < (ks.length : Int) := by omega
          obtain ⟨bz, oz, rfl, z0⟩ := (HK.out.mod hH1.out.m).cell1 (u := fun n => .int .u8 (n : Nat)) (fun _ => rfl) hzz
          have hCz : Hid (∀ X, Mod [] w X → X.cell? ⟨bz, oz + i, none⟩ = some (.int .u8 (z : Nat))) := by
            intro X hX
            obtain ⟨_, _, e, c0⟩ := (HK.out.mod hX).cell1 (u := fun n => .int .u8 (n : Nat)) (fun _ => rfl) hzz
            cases e
            exact c0
          clear hzz haw
          go_upto_if 57 with (fail)
          go_cut [7] from 46 to 75 (fun q wx => ∃ f2, Hid (Fok f2) ∧ Hid (Hld w [] (star (feR fb f2) emp) wx))
          case first =>
            by_cases h3 : (z : Int) % 3 = 0
            · have h3b : ((z : Int) % 3 == 0) = true := by rw [h3]; rfl
              clear h3
              go_wp2_with fail
              refine (seps_h hH1.out hF1.out).mono ?_
              rintro e w2 ⟨v, rfl, H2⟩
              have hsl : (sepsL f1.lv).length ≤ 1000 := by have := hF1.out.ok.len; simp; omega
              obtain ⟨SS, hSS⟩ : ∃ SS, SS = sepsL f1.lv := ⟨_, rfl⟩
              rw [← hSS] at H2 hsl
              have hX := seg_lx H2 hsl
              have G2 := hid (H2.drop)
              have z0 := hCz.out _ G2.out.m
              clear H2
              have HX2 := hid hX
              obtain ⟨pv, cv, rfl, _, _⟩ := hX
              clear hSS
              rcases Nat.eq_zero_or_pos SS.length with hz | hz
              · have hz0 : ¬ (0 : Int) < (SS.length : Int) := by omega
                go_wp2_with fail
                go_meet
                exact ⟨_, hF1, G2⟩
              · have hz0 : (0 : Int) < (SS.length : Int) := by omega
                have hm := Nat.mod_lt z hz
                obtain ⟨m, hmm⟩ : ∃ m, m = z % SS.length := ⟨_, rfl⟩
                rw [← hmm] at hm
                obtain ⟨y, hy⟩ : ∃ y, SS[m]? = some y := ⟨_, List.getElem?_eq_getElem hm⟩
                obtain ⟨bs, os, rfl, d0⟩ := HX2.out.cell1 (u := fun s => .string s) (fun _ => rfl) hy
                have htm : Int.tmod (z : Int) (SS.length : Int) = (m : Int) := by rw [hmm]; rfl
                have hw1 : IntKind.i64.wrap (z : Int) = (z : Int) := IntWalk.i64_in _ ⟨by omega, by omega⟩
                have hw2 : IntKind.i64.wrap (m : Int) = (m : Int) := IntWalk.i64_in _ ⟨by omega, by omega⟩
                have hm1 : (m : Int) < (SS.length : Int) := by omega
                have hm0 : (0 : Int) ≤ (m : Int) := by omega
                clear hmm hy
                go_wp2_with fail
                refine (rem_h G2.out hF1.out y).mono ?_
                rintro e w3 ⟨rfl, H3⟩
                go_wp2_with fail
                go_meet
                exact ⟨_, hF1.out.rem _, H3⟩
            · have h3b : ((z : Int) % 3 == 0) = false := beq_eq_false_iff_ne.2 h3
              clear h3
              go_wp2_with fail
              go_meet
              exact ⟨_, hF1, hH1⟩
          case' rest =>
            clear z0 hF1 hH1
            obtain ⟨f2, hF2, hH2⟩ := hcut
        case' neg =>
          have hzi : ¬ (i : Int) < (ks.length : Int) := by omega
          clear hF1 hH1
          obtain ⟨f2, hF2, hH2⟩ := hFH
        all_goals
          go_wp2
          go_loopg [8, 9] f2.d (fun g p q wr2 => ∃ (k n : Nat), p = .int .i64 n ∧ q = .int .i64 k ∧ k + g = f2.d ∧ Hid (n = 5 ^ k) ∧ Hid (wc = wr2))
          · exact ⟨0, 1, rfl, rfl, by omega, rfl, rfl⟩
          · obtain ⟨k, n, rfl, rfl, hkg, hnk, hw⟩ := hrel
            obtain rfl := hw.out
            have hdep := hid (depth_h hH2.out hF2.out)
            have hd6 : f2.d < 6 := by
              have h1 := hF2.out.count.1
              have h2 := hF2.out.ok.len
              rw [List.length_map] at h1
              rcases Nat.lt_or_ge f2.d 6 with h | h
              · exact h
              · have := Nat.pow_le_pow_right (show 0 < 2 by decide) h
                have e : (2 : Nat) ^ 6 = 64 := by decide
                omega
            have hn4 : n ≤ 3125 := by
              rw [hnk.out]
              have := Nat.pow_le_pow_right (show 0 < 5 by decide) (show k ≤ 5 by omega)
              have e : (5 : Nat) ^ 5 = 3125 := by decide
              omega
            clear hw
            by_cases hkd : k < f2.d
            · have hkd1 : (k : Int) < (f2.d : Int) := by omega
              go_wp2_with fail
              refine hdep.out.mono ?_
              rintro e w4 ⟨rfl, rfl⟩
              go_wp2
              go_roundg (gk - 1)
              case measure => omega
              case rel => exact ⟨k + 1, 5 * n, by go_num, by go_num, by omega, by show _ = _; rw [hnk.out, Nat.pow_succ, Nat.mul_comm], rfl⟩
            · have hkd1 : ¬ (k : Int) < (f2.d : Int) := by omega
              obtain rfl : k = f2.d := by omega
              have hpl : (pidsL f2.lv).length ≤ n := by rw [hnk.out]; exact hF2.out.count.2.1
              have hpi := hid (pids_h hH2.out hF2.out)
              clear hnk
              go_wp2_with fail
              refine hdep.out.mono ?_
              rintro e w4 ⟨rfl, rfl⟩
              go_wp2_with fail
              refine hpi.out.mono ?_
              rintro e w4 ⟨v, rfl, H3⟩
              obtain ⟨PP, hPP⟩ : ∃ PP, PP = pidsL f2.lv := ⟨_, rfl⟩
              rw [← hPP] at H3 hpl
              have LP := row_lx H3
              have H4 := hid H3.drop
              obtain ⟨pv, cv, rfl, _, _⟩ := LP
              have hpl1 : ¬ (n : Int) < (PP.length : Int) := by omega
              clear hPP H3 hpl
              go_wp2
              go_roundg (G - 1)
              case measure => have := hG.out; omega
              case rel => exact ⟨i + 1, f2, by go_num, by have := hG.out; omega, by omega, hF2, H4⟩
    · have hor : ¬ (i : Int) < (xs.length : Int) ∨ ((i : Int) < (xs.length : Int) ∧ ¬ (i : Int) < 59) := by omega
      have him := hid (img_h hH.out hF.out)
      have hpz := imgB_size hF.out.ok
      have hpi := hid (parse_img hF.out.ok)
      clear hlt hig hix hH
      rcases hor with hk1 | ⟨hk1, hk2⟩
      all_goals
        go_wp2_with fail
        refine him.out.mono ?_
        rintro e w2 ⟨rfl, H2⟩
        have H2 := hid H2
        go_wp2_with fail
        refine (fparse_c w [] w2 (imgB f.lv) (star (feR fb f) emp) H2.out (by omega)).mono ?_
        intro e w3 hp
        rcases hp with ⟨hp, _⟩ | ⟨gb, g, hp, hg, rfl, H3⟩
        · rw [hpi.out] at hp; cases hp
        · have hlv : g.lv = f.lv := by
            rw [hpi.out] at hp
            exact (Option.some.inj hp).symm
          have hgf := hid (Fok.mk hg (by rw [hlv]; exact hF.out.ok))
          have hlv := hid hlv
          have H3 := hid H3
          clear hp hg
          go_wp2
          go_loopg [12] 52 (fun g q wr2 => ∃ k : Nat, q = .int .i64 ((5 * k : Nat) : Int) ∧ k + g = 52 ∧ Hid (Mod [] w3 wr2))
          · exact ⟨0, rfl, rfl, Mod.refl _ _⟩
          · obtain ⟨k, rfl, hkg, hM⟩ := hrel
            obtain ⟨j, hj⟩ : ∃ j : Nat, j = 5 * k := ⟨_, rfl⟩
            rw [← hj]
            by_cases hkl : j < 256
            · have hkl1 : (j : Int) < 256 := by omega
              have hw7 : IntKind.i64.wrap ((j : Int) * 7) = (j : Int) * 7 := IntWalk.i64_in _ ⟨by omega, by omega⟩
              have hu1 : IntKind.u8.wrap (j : Int) = (j : Int) := by rw [IntKind.wrap_u8]; omega
              obtain ⟨m, hm⟩ : ∃ m : Nat, m = j * 7 % 256 := ⟨_, rfl⟩
              have hu2 : IntKind.u8.wrap ((j : Int) * 7) = (m : Int) := by rw [IntKind.wrap_u8]; omega
              have hcv := conv_two wr j m
              have HJ := hid (And.intro hj hm)
              have hmm := hid (hM.out.alloc (.cells #[.int .u8 (j : Nat), .int .u8 (m : Nat)] 5))
              clear hj hm hM
              go_wp2_with fail
              refine (find_hw (U := star (feR gb g) emp) (H3.out.swap.mod hmm.out) hF.out (two j m)).mono ?_
              rintro e w4 ⟨rfl, hm4⟩
              have hm4 := hid (hmm.out.tr hm4)
              clear hmm hcv
              go_wp2_with fail
              refine (find_hw (H3.out.mod hm4.out) hgf.out (two j m)).mono ?_
              rintro e w5 ⟨rfl, hm5⟩
              rw [hlv.out]
              have hm5 := hid (hm4.out.tr hm5)
              clear hm4
              go_wp2
              go_roundg (gk - 1)
              case measure => have := HJ.out.1; omega
              case rel => exact ⟨k + 1, by have := HJ.out.1; go_num, by have := HJ.out.1; omega, hm5⟩
            · have hkl1 : ¬ (j : Int) < 256 := by omega
              have hm := hid (H3.out.m.tr hM.out)
              go_wp2_with fail
              refine (works_c wr).mono ?_
              rintro e w2 ⟨rfl, hm2⟩
              go_wp2
              go_ret
              exact ⟨rfl, hm.out.tr hm2⟩

theorem flat_said {H : Type} {enc : TypeId × Value → H} {base base' : Nat} {spare spare' : Nat → Bool} {held held' : Bool} {d d' : DataW H} {p p' : List MemPlace} (a : Option Addr) (len cap : Nat) (ka : Option Addr) (klen kcap : Nat) (w : World)
    (h : DataW.Trod enc Try.prog w base spare held 48 (.slice a len cap) d p) (h' : DataW.Trod enc Try.prog w base' spare' held' 48 (.slice ka klen kcap) d' p') :
    Calls Try.prog 7 #[.slice a len cap, .slice ka klen kcap] w fun e w' => e = .returned (.bool true) ∧ Mod [] w w' := by
  obtain ⟨xs, hl, rfl, hx⟩ := open_u8s h
  obtain ⟨ks, hk, rfl, hks⟩ := open_u8s h'
  exact flat_walk a cap xs ka kcap ks w hl hx hk hks
end Go.Proofs.Ythofkkmnngmafaa
