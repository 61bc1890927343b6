/- FenceFinds: the walk. -/
import Derived.Test.YthofkkmnngmafaaFZ
namespace Go.Proofs.Ythofkkmnngmafaa
set_option linter.unusedVariables false
set_option linter.unusedSimpArgs false
set_option linter.unusedSectionVars false
open Go.RowKit

theorem Lx.act {w : World} {a : Option Addr} {n cap : Nat} {l : List Ac} (h : Lx 3 acC w (.slice a n cap) l) {i : Nat} {x : Ac} (hx : l[i]? = some x) :
    ∃ b off : Nat, a = some ⟨b, off, Option.none⟩ ∧ w.cell? ⟨b, off + i * 3, Option.none⟩ = some (.int .i64 x.what) ∧ w.cell? ⟨b, off + i * 3 + 1, Option.none⟩ = some (.string x.key) ∧ w.cell? ⟨b, off + i * 3 + 2, Option.none⟩ = some (.int .u8 (x.pid : Nat)) := by
  obtain ⟨b, off, e, hc⟩ := h.at hx
  exact ⟨b, off, e, hc 0 _ rfl, hc 1 _ rfl, hc 2 _ rfl⟩

theorem find_hm {w0 w : World} {L0 : List Nat} {fb : Nat} {f : Fc} {U : Res} (h : Hld w0 L0 (star (feR fb f) U) w) (hf : Fok f) (key : ByteArray) :
    Calls Try.prog 15 #[.pointer (some ⟨fb, 0, none⟩), .string key] w fun e w' => e = .returned (.int .u64 (findL f.lv key : Nat)) ∧ Mod [] w w' := by
  obtain ⟨L, hL⟩ := h.res
  refine (find_c w fb f key L hL hf.good).mono ?_
  rintro e w' ⟨rfl, hm⟩
  exact ⟨by rw [hf.good.find], hm⟩
set_option maxRecDepth 100000 in
set_option maxHeartbeats 8000000 in
theorem finds_walk (a : Option Addr) (cap : Nat) (xs : List Ac) (ka : Option Addr) (kcap : Nat) (ks : List ByteArray) (w : World) (h : Lx 3 acC w (.slice a xs.length cap) xs) (hx : ∀ x ∈ xs, x.Ok) (hk : Lx 1 stC w (.slice ka ks.length kcap) ks) (hks : ∀ s ∈ ks, s.size ≤ 9223372036854775807) :
    Calls Try.prog 3 #[.slice a xs.length cap, .slice ka ks.length kcap] w fun e w' => e = .returned (.bool true) ∧ Mod [] w w' := by
  have hlen := h.len.2
  have hklen := hk.len.2
  have HL := hid h
  have HX := hid hx
  have HK := hid hk
  have HKS := hid hks
  have H0 : Hld w [] emp w := Hld.start rfl
  clear h hx hk hks
  go_enter Try.func3, Try.ntmps3
  go_wp2_with fail
  refine (new_h H0 255 (by decide)).mono ?_
  rintro e w1 ⟨rfl, H1⟩
  obtain ⟨fb, hfb⟩ : ∃ fb, fb = w.heap.size := ⟨_, rfl⟩
  rw [← hfb] at H1 ⊢
  have H1 := hid H1
  clear H0 hfb
  go_wp2
  go_loopg [6] 120 (fun g q wr => ∃ (i : Nat) (f : Fc), q = .int .i64 i ∧ i + g = 120 ∧ i ≤ xs.length ∧ Hid (Fok f ∧ Hd f 255) ∧ Hid (Hld w [] (star (feR fb f) emp) wr))
  · exact ⟨0, fe0 255, rfl, rfl, by omega, ⟨Fok.one (by decide) (by decide), ⟨[], rfl⟩⟩, H1.out⟩
  · clear H1
    obtain ⟨i, f, rfl, hig, hix, hF, hH⟩ := hrel
    obtain ⟨G, hG⟩ : ∃ G, G = gk := ⟨_, rfl⟩
    by_cases hlt : i < xs.length ∧ i < 120
    · obtain ⟨hlt, hlt2⟩ := hlt
      obtain ⟨x, hxx⟩ : ∃ x, xs[i]? = some x := ⟨_, List.getElem?_eq_getElem hlt⟩
      have hi1 : (i : Int) < (xs.length : Int) := by omega
      have hi2 : (i : Int) < 120 := by omega
      have hi0 : (0 : Int) ≤ (i : Int) := by omega
      obtain ⟨o1, o2, o3, o4⟩ := HX.out x (List.mem_of_getElem? hxx)
      obtain ⟨ba, oa, rfl, c0, c1, c2⟩ := (HL.out.mod hH.out.m).act hxx
      have hC : Hid (∀ X, Mod [] w X → X.cell? ⟨ba, oa + i * 3, none⟩ = some (.int .i64 x.what) ∧ X.cell? ⟨ba, oa + i * 3 + 1, none⟩ = some (.string x.key) ∧ X.cell? ⟨ba, oa + i * 3 + 2, none⟩ = some (.int .u8 (x.pid : Nat))) := by
        intro X hX
        obtain ⟨_, _, e, hc⟩ := (HL.out.mod hX).act hxx
        simp only [Option.some.injEq, Addr.mk.injEq, and_true] at e
        obtain ⟨rfl, rfl⟩ := e
        exact hc
      clear hxx
      go_upto_region 7 with (fail)
      go_cut [7] from 30 to 42 (fun p wx => p = .string (cutB x.key 20) ∧ Hid (Mod [] wr wx))
      case first =>
        go_quiet (fail)
        go_wp2_with fail
        go_meet
        exact ⟨by rw [show (min (x.key.size : Int) 20).toNat = min x.key.size 20 by omega]; rfl, by first | exact (Mod.refl _ _).drewN _ | exact (Mod.refl _ _).drew | exact Mod.refl _ _⟩
      case rest =>
        obtain ⟨rfl, hcm⟩ := hcut
        have hH := hid (hH.out.mod hcm.out)
        clear hcm c0 c1 c2
        obtain ⟨c0, c1, c2⟩ := hC.out _ hH.out.m
        have hkz := cutB_size x.key 20
        go_upto_if 49 with (fail)
        go_cut [7, 8] from 43 to 78 (fun p q wx => ∃ f' : Fc, Hid (Fok f' ∧ Hd f' 255) ∧ Hid (Hld w [] (star (feR fb f') emp) wx))
        case first =>
          by_cases h3 : Int.tmod x.what 4 = 3
          · have h3b : (Int.tmod x.what 4 == 3) = true := by rw [h3]; rfl
            clear h3
            go_wp2_with fail
            refine (seps_h hH.out hF.out.1).mono ?_
            rintro e w2 ⟨v, rfl, H2⟩
            have hsl : (sepsL f.lv).length ≤ 1000 := by have := hF.out.1.ok.len; simp; omega
            obtain ⟨SS, hSS⟩ : ∃ SS, SS = sepsL f.lv := ⟨_, rfl⟩
            rw [← hSS] at H2 hsl
            have hX := seg_lx H2 hsl
            have G2 := hid (H2.drop)
            obtain ⟨c0, c1, c2⟩ := hC.out _ G2.out.m
            clear H2
            have HX2 := hid hX
            obtain ⟨pv, cv, rfl, _, _⟩ := hX
            clear hSS
            rcases Nat.eq_zero_or_pos SS.length with hz | hz
            · have hz0 : ¬ (0 : Int) < (SS.length : Int) := by omega
              go_wp2_with fail
              refine (rem_h G2.out hF.out.1 (cutB x.key 20)).mono ?_
              rintro e w3 ⟨rfl, H3⟩
              go_wp2_with fail
              go_meet
              exact ⟨_, ⟨hF.out.1.rem _, hF.out.2.rem hF.out.1 _⟩, H3⟩
            · have hz0 : (0 : Int) < (SS.length : Int) := by omega
              have hm := Nat.mod_lt x.pid hz
              obtain ⟨m, hmm⟩ : ∃ m, m = x.pid % SS.length := ⟨_, rfl⟩
              rw [← hmm] at hm
              obtain ⟨y, hy⟩ : ∃ y, SS[m]? = some y := ⟨_, List.getElem?_eq_getElem hm⟩
              obtain ⟨bs, os, rfl, d0⟩ := HX2.out.cell1 (u := fun s => .string s) (fun _ => rfl) hy
              have htm : Int.tmod (x.pid : Int) (SS.length : Int) = (m : Int) := by rw [hmm]; rfl
              have hw1 : IntKind.i64.wrap (x.pid : Int) = (x.pid : Int) := IntWalk.i64_in _ ⟨by omega, by omega⟩
              have hw2 : IntKind.i64.wrap (m : Int) = (m : Int) := IntWalk.i64_in _ ⟨by omega, by omega⟩
              have hm1 : (m : Int) < (SS.length : Int) := by omega
              have hm0 : (0 : Int) ≤ (m : Int) := by omega
              clear hmm hy
              go_wp2_with fail
              refine (rem_h G2.out hF.out.1 y).mono ?_
              rintro e w3 ⟨rfl, H3⟩
              go_wp2_with fail
              go_meet
              exact ⟨_, ⟨hF.out.1.rem _, hF.out.2.rem hF.out.1 _⟩, H3⟩
          · have h3b : (Int.tmod x.what 4 == 3) = false := beq_eq_false_iff_ne.2 h3
            clear h3
            go_wp2_with fail
            refine (ins_h hH.out hF.out.1 (cutB x.key 20) x.pid (by omega)).mono ?_
            rintro e w2 ⟨rfl, H2⟩
            go_wp2_with fail
            go_meet
            exact ⟨_, ⟨hF.out.1.ins _ (by omega), hF.out.2.ins hF.out.1 _ _⟩, H2⟩
        case rest =>
          obtain ⟨f', hF', hH'⟩ := hcut
          clear hF hH c0 c1 c2
          go_wp2_with fail
          refine (seps_h hH'.out hF'.out.1).mono ?_
          rintro e w2 ⟨v1, rfl, G1⟩
          have G1 := hid G1.swap
          go_wp2_with fail
          refine (pids_h G1.out hF'.out.1).mono ?_
          rintro e w3 ⟨v2, rfl, G2⟩
          obtain ⟨SS, hSS⟩ : ∃ SS, SS = sepsL f'.lv := ⟨_, rfl⟩
          obtain ⟨PP, hPP⟩ : ∃ PP, PP = pidsL f'.lv := ⟨_, rfl⟩
          rw [← hSS, ← hPP] at G2
          have hPS : PP.length = SS.length + 1 := by rw [hPP, hSS]; exact pids_seps hF'.out.1.ok
          have hP60 : PP.length ≤ 60 := by rw [hPP, List.length_map]; exact hF'.out.1.ok.len
          have hP0 : PP[0]? = some 255 := by rw [hPP]; exact hF'.out.2.first
          have LP := row_lx G2
          have LS := seg_lx G2.drop.drop (by omega)
          have HG := hid G2.swap
          have Hcnt := hF'.out.1.count
          rw [← hPP] at Hcnt
          have hd60 : f'.d < 60 := by have := Nat.lt_two_pow_self (n := f'.d); omega
          have Hcnt := hid Hcnt
          have HSP := hid (And.intro hSS hPP)
          clear hSS hPP G1 G2 hH'
          have HLP := hid LP
          have HLS := hid LS
          obtain ⟨p1, c1, rfl, _, _⟩ := LS
          obtain ⟨p2, c2, rfl, _, _⟩ := LP
          obtain ⟨b2, o2, rfl, d0⟩ := HLP.out.cell1 (u := fun p => .int .u64 (p : Nat)) (fun _ => rfl) hP0
          have hn1 : (SS.length : Int) + 1 = (PP.length : Int) := by omega
          have hn2 : (PP.length : Int) ≤ 60 := by omega
          have hn3 : (0 : Int) < (PP.length : Int) := by omega
          rw [Nat.add_zero] at d0
          have HPS := hid hPS
          clear hP0 hPS
          go_wp2
          go_loopg [11, 12] f'.d (fun g p q wr2 => ∃ (k n : Nat), p = .int .i64 n ∧ q = .int .i64 k ∧ k + g = f'.d ∧ Hid (n = 2 ^ k) ∧ Hid (w3 = wr2))
          · exact ⟨0, 1, rfl, rfl, by omega, rfl, rfl⟩
          · obtain ⟨k, n, rfl, rfl, hkg, hnk, hw⟩ := hrel
            obtain rfl := hw.out
            have hdep := hid (depth_h HG.out hF'.out.1)
            have hn60 : n ≤ PP.length := by
              rw [hnk.out]
              exact Nat.le_trans (Nat.pow_le_pow_right (by decide) (by omega)) Hcnt.out.1
            clear hw
            by_cases hkd : k < f'.d
            · have hkd1 : (k : Int) < (f'.d : Int) := by omega
              go_wp2_with fail
              refine hdep.out.mono ?_
              rintro e w4 ⟨rfl, rfl⟩
              go_wp2
              go_roundg (gk - 1)
              case measure => omega
              case rel => exact ⟨k + 1, 2 * n, by go_num, by go_num, by omega, by show _ = _; rw [hnk.out, Nat.pow_succ, Nat.mul_comm], rfl⟩
            · have hkd1 : ¬ (k : Int) < (f'.d : Int) := by omega
              go_wp2_with fail
              refine hdep.out.mono ?_
              rintro e w4 ⟨rfl, rfl⟩
              have hnp : ¬ (PP.length : Int) < (n : Int) := by omega
              have hdz := Hcnt.out.2.2
              have hor : (f'.d = 0 ∧ PP.length = 1) ∨ (f'.d ≠ 0 ∧ PP.length ≠ 1) := by omega
              clear hdz hkg hnk
              obtain ⟨dd, hdd⟩ : ∃ dd, dd = f'.d := ⟨_, rfl⟩
              have e1 : ((f'.d : Int) == 0) = ((PP.length : Int) == 1) := by
                rcases hor with ⟨h1, h2⟩ | ⟨h1, h2⟩
                · rw [h1, h2]; rfl
                · rw [beq_eq_false_iff_ne.2 (show (f'.d : Int) ≠ 0 by omega), beq_eq_false_iff_ne.2 (show (PP.length : Int) ≠ 1 by omega)]
              go_wp2_with fail
              refine hdep.out.mono ?_
              rintro e w4 ⟨rfl, rfl⟩
              go_wp2_with fail
              have Hfind : Hid (∀ X key, Mod [] w3 X → Calls Try.prog 15 #[.pointer (some ⟨fb, 0, none⟩), .string key] X fun e w' => e = .returned (.int .u64 (findL f'.lv key : Nat)) ∧ Mod [] X w') := fun X key hX => find_hm (HG.out.mod hX) hF'.out.1 key
              have Hleaf : Hid (∀ X key, Mod [] w3 X → Calls Try.prog 16 #[.slice p1 SS.length c1, .slice (some ⟨b2, o2, none⟩) PP.length c2, .string key] X fun e w' => e = .returned (.int .u64 (findL f'.lv key : Nat)) ∧ Mod [] X w') := fun X key hX => by
                refine (leaf_c X _ _ SS PP key (HLS.out.mod hX) (HLP.out.mod hX) HPS.out (by omega)).mono ?_
                rintro e w' ⟨⟨n, q, rfl, hq, hl⟩, hm⟩
                rw [HSP.out.1] at hl
                rw [HSP.out.2] at hq
                exact ⟨by rw [leaf_find hF'.out.1.ok hl hq], hm⟩
              clear hdep hor e1 hnp hdd hkd hkd1 hn60
              go_loopg [13] SS.length (fun g q wr2 => ∃ k : Nat, q = .int .i64 k ∧ k + g = SS.length + 1 ∧ 1 ≤ k ∧ Hid (Mod [] w3 wr2))
              · exact ⟨1, rfl, by omega, by omega, Mod.refl _ _⟩
              · obtain ⟨k, rfl, hkg, hk1, hM⟩ := hrel
                by_cases hkl : k < SS.length
                · obtain ⟨s2, hs2⟩ : ∃ s2, SS[k]? = some s2 := ⟨_, List.getElem?_eq_getElem hkl⟩
                  obtain ⟨j, rfl⟩ : ∃ j, k = j + 1 := ⟨k - 1, by omega⟩
                  obtain ⟨s1, hs1⟩ : ∃ s1, SS[j]? = some s1 := ⟨_, List.getElem?_eq_getElem (by omega)⟩
                  have hls : SL s1 s2 := by
                    have hS := List.pairwise_iff_getElem.1 hF'.out.1.ok.sepsS
                    rw [← HSP.out.1] at hS
                    obtain ⟨q1, e1⟩ := List.getElem?_eq_some_iff.1 hs1
                    obtain ⟨q2, e2⟩ := List.getElem?_eq_some_iff.1 hs2
                    rw [← e1, ← e2]
                    exact hS j (j + 1) q1 q2 (by omega)
                  obtain ⟨b1, o1', rfl, e1⟩ := (HLS.out.mod hM.out).cell1 (u := fun s => .string s) (fun _ => rfl) hs1
                  obtain ⟨b1', o1'', eb, e2⟩ := (HLS.out.mod hM.out).cell1 (u := fun s => .string s) (fun _ => rfl) hs2
                  cases eb
                  have hb1 : Op.bytesLess s1.toList s2.toList = true := blS_yes hls
                  have hkl1 : (j : Int) + 1 < (SS.length : Int) := by omega
                  have hj0 : (0 : Int) ≤ (j : Int) := by omega
                  clear hs1 hs2 hls
                  go_wp2
                  go_quiet (fail)
                  go_wp2
                  go_roundg (gk - 1)
                  case measure => omega
                  case rel => exact ⟨j + 1 + 1, by go_num, by omega, by omega, by first | exact hM.out.drewN _ | exact hM.out.drew | exact hM.out⟩
                · have hkl1 : ¬ (k : Int) < (SS.length : Int) := by omega
                  go_wp2
                  clear hkg hk1 hkl hkl1
                  go_loopg [14] SS.length (fun g q wr2 => ∃ k : Nat, q = .int .i64 k ∧ k + g = SS.length ∧ Hid (Mod [] w3 wr2))
                  · exact ⟨0, rfl, by omega, hM⟩
                  · clear hM
                    obtain ⟨k, rfl, hkg, hM⟩ := hrel
                    by_cases hkl : k < SS.length
                    · obtain ⟨s1, hs1⟩ : ∃ s1, SS[k]? = some s1 := ⟨_, List.getElem?_eq_getElem hkl⟩
                      obtain ⟨q1, hq1⟩ : ∃ q1, PP[k + 1]? = some q1 := ⟨_, List.getElem?_eq_getElem (by omega)⟩
                      have hfs : findL f'.lv s1 = q1 := find_sep hF'.out.1.ok (by rw [← HSP.out.1]; exact hs1) (by rw [← HSP.out.2]; exact hq1)
                      have hF1 := fun X hX => Hfind.out X s1 hX
                      rw [hfs] at hF1
                      have HF1 := hid hF1
                      obtain ⟨b1, o1', rfl, e1⟩ := (HLS.out.mod hM.out).cell1 (u := fun s => .string s) (fun _ => rfl) hs1
                      obtain ⟨b2', o2', eb, e2⟩ := (HLP.out.mod hM.out).cell1 (u := fun p => .int .u64 (p : Nat)) (fun _ => rfl) hq1
                      cases eb
                      have hkl1 : (k : Int) < (SS.length : Int) := by omega
                      have hk0 : (0 : Int) ≤ (k : Int) := by omega
                      have hk2 : (k : Int) + 1 < (PP.length : Int) := by omega
                      have hk4 : (0 : Int) ≤ (k : Int) + 1 := by omega
                      have hk5 : (k : Int) ≤ 60 := by omega
                      have hw1 : IntKind.i64.wrap ((k : Int) + 1) = (k : Int) + 1 := IntWalk.i64_in _ ⟨by omega, by omega⟩
                      have hMM := hM.out
                      have hsz : s1.size ≤ 16 := by
                        have hm : s1 ∈ sepsL f'.lv := by rw [← HSP.out.1]; exact List.mem_of_getElem? hs1
                        obtain ⟨y, hy, rfl⟩ := List.mem_map.1 (List.drop_subset _ _ hm)
                        exact (hF'.out.1.ok.small y hy).1
                      have hz2 : ¬ (9223372036854775807 < s1.size + 1) := by omega
                      clear hs1 hq1 hfs hF1
                      go_upto_region 32 with (fail)
                      go_region_held3 (fun X => Mod [] w3 X ∧ X.cell? ⟨b1, o1' + k, none⟩ = some (.string s1) ∧ X.cell? ⟨b2, o2 + (k + 1), none⟩ = some (.int .u64 (q1 : Nat)))
                        (first
                          | exact ⟨hMM.drew, e1, e2⟩
                          | assumption
                          | exact ⟨Mod.tr (And.left ‹Mod [] w3 _ ∧ _›) hm, hm.cellSome (And.left (And.right ‹Mod [] w3 _ ∧ _›)) (by simp), hm.cellSome (And.right (And.right ‹Mod [] w3 _ ∧ _›)) (by simp)⟩
                          | fail)
                        (first
                          | (go_at_call 15; with_reducible refine (HF1.out _ (And.left ‹Mod [] w3 _ ∧ _›)).mono ?_; rintro e w' ⟨rfl, hm⟩)
                          | (go_at_call 15; with_reducible refine (Hfind.out _ _ (And.left ‹Mod [] w3 _ ∧ _›)).mono ?_; rintro e w' ⟨rfl, hm⟩)
                          | (go_at_call 16; with_reducible refine (Hleaf.out _ _ (And.left ‹Mod [] w3 _ ∧ _›)).mono ?_; rintro e w' ⟨rfl, hm⟩)
                          | fail)
                      have hMM2 := And.left ‹Mod [] w3 _ ∧ _›
                      go_wp2
                      go_roundg (gk - 1)
                      case measure => omega
                      case rel => exact ⟨k + 1, by go_num, by omega, hMM2⟩
                    · have hkl1 : ¬ (k : Int) < (SS.length : Int) := by omega
                      go_wp2
                      clear hkg hkl hkl1
                      go_loopg [15] 10 (fun g q wr2 => ∃ k : Nat, q = .int .i64 k ∧ k + g = 10 ∧ k ≤ ks.length ∧ Hid (Mod [] w3 wr2))
                      · exact ⟨0, rfl, by omega, by omega, hM⟩
                      · clear hM
                        obtain ⟨k, rfl, hkg, hkk, hM⟩ := hrel
                        by_cases hkl : k < ks.length ∧ k < 10
                        · obtain ⟨hkl, hk10⟩ := hkl
                          obtain ⟨y, hy⟩ : ∃ y, ks[k]? = some y := ⟨_, List.getElem?_eq_getElem hkl⟩
                          have hyz := HKS.out y (List.mem_of_getElem? hy)
                          obtain ⟨bk, ok, rfl, e1⟩ := (HK.out.mod (HG.out.m.tr hM.out)).cell1 (u := fun s => .string s) (fun _ => rfl) hy
                          have hkl1 : (k : Int) < (ks.length : Int) := by omega
                          have hk101 : (k : Int) < 10 := by omega
                          have hk0 : (0 : Int) ≤ (k : Int) := by omega
                          clear hy
                          go_upto_region 37 with (fail)
                          go_cut [16] from 183 to 193 (fun p wx => p = .string (cutB y 20) ∧ Hid (Mod [] w3 wx))
                          case first =>
                            go_quiet (fail)
                            go_wp2_with fail
                            go_meet
                            exact ⟨by rw [show (min (y.size : Int) 20).toNat = min y.size 20 by omega]; rfl, by first | exact hM.out.drewN _ | exact hM.out.drew | exact hM.out⟩
                          case rest =>
                            obtain ⟨rfl, hcm⟩ := hcut
                            clear hM e1
                            go_wp2_with fail
                            refine (Hfind.out _ _ hcm.out).mono ?_
                            rintro e w4 ⟨rfl, hm4⟩
                            have hm4 := hid (hcm.out.tr hm4)
                            clear hcm
                            go_wp2_with fail
                            refine (Hleaf.out _ _ hm4.out).mono ?_
                            rintro e w5 ⟨rfl, hm5⟩
                            have hm5 := hid (hm4.out.tr hm5)
                            clear hm4
                            go_wp2
                            go_roundg (gk - 1)
                            case measure => omega
                            case rel => exact ⟨k + 1, by go_num, by omega, by omega, hm5⟩
                        · have hor : ¬ (k : Int) < (ks.length : Int) ∨ ((k : Int) < (ks.length : Int) ∧ ¬ (k : Int) < 10) := by omega
                          have HE := hid ((HG.out.mod hM.out).ent (((ent_drop _ _).trans (ent_drop _ _)).under _))
                          clear hkl hkg hkk hM
                          rcases hor with hk1 | ⟨hk1, hk2⟩
                          all_goals
                            go_wp2
                            go_roundg (G - 1)
                            case measure => omega
                            case rel => exact ⟨i + 1, f', by go_num, by omega, by omega, hF', HE⟩
    · have hor : ¬ (i : Int) < (xs.length : Int) ∨ ((i : Int) < (xs.length : Int) ∧ ¬ (i : Int) < 120) := by omega
      have hm := hid hH.out.m
      clear hlt hig hix hF hH
      rcases hor with hk1 | ⟨hk1, hk2⟩
      all_goals
        go_wp2_with fail
        refine (works_c wr).mono ?_
        rintro e w2 ⟨rfl, hm2⟩
        go_wp2
        go_ret
        exact ⟨rfl, hm.out.tr hm2⟩

theorem finds_said {H : Type} {enc : TypeId × Value → H} {base base' : Nat} {spare spare' : Nat → Bool} {held held' : Bool} {d d' : DataW H} {p p' : List MemPlace} (a : Option Addr) (len cap : Nat) (ka : Option Addr) (klen kcap : Nat) (w : World)
    (h : DataW.Trod enc Try.prog w base spare held 22 (.slice a len cap) d p) (h' : DataW.Trod enc Try.prog w base' spare' held' 23 (.slice ka klen kcap) d' p') :
    Calls Try.prog 3 #[.slice a len cap, .slice ka klen kcap] w fun e w' => e = .returned (.bool true) ∧ Mod [] w w' := by
  obtain ⟨xs, hl, rfl, hx⟩ := open_acts h
  obtain ⟨ks, hk, rfl, hks⟩ := open_strs h'
  exact finds_walk a cap xs ka kcap ks w hl hx hk hks
end Go.Proofs.Ythofkkmnngmafaa
