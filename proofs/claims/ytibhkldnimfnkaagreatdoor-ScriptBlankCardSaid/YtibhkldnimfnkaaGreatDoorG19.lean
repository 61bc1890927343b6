/- Script: parts WF. -/
import Derived.Test.YtibhkldnimfnkaaGreatDoorG18

/- Script: ScriptKnown (printed by mkWF.py). -/
namespace Go.Proofs.YtibhkldnimfnkaaGreatDoor
section
set_option linter.unusedVariables false
set_option linter.unusedSimpArgs false
set_option linter.unusedSectionVars false
open Go.RowKit

abbrev knG : Bs := [100, 101, 108, 105, 118, 101, 114, 32, 48, 10, 100, 114, 111, 112, 32, 51, 57, 57, 10, 116, 119, 105, 99, 101, 32, 49, 55, 10, 116, 105, 99, 107, 32, 116, 99, 10, 102, 108, 117, 115, 104, 32, 100, 99, 10, 99, 108, 101, 97, 110, 10, 99, 107, 112, 116, 10, 101, 118, 105, 99, 116, 32, 116, 99, 32, 49, 10, 101, 118, 105, 99, 116, 32, 100, 99, 32, 57, 57, 57, 10, 99, 114, 97, 115, 104, 32, 116, 99, 32, 48, 10, 119, 97, 107, 101, 32, 100, 99, 32, 57, 57, 57, 10, 98, 101, 103, 105, 110, 10, 114, 101, 97, 100, 32, 49, 32, 34, 49, 50, 51, 52, 53, 54, 55, 56, 57, 48, 49, 50, 51, 52, 53, 54, 34, 10, 100, 101, 108, 101, 116, 101, 32, 49, 48, 57, 57, 53, 49, 49, 54, 50, 55, 55, 55, 54, 32, 34, 107, 34, 10, 115, 99, 97, 110, 32, 53, 32, 34, 34, 32, 34, 34, 10, 119, 114, 105, 116, 101, 32, 53, 32, 34, 97, 92, 92, 34, 32, 34, 49, 50, 51, 52, 53, 54, 55, 56, 57, 48, 49, 50, 51, 52, 53, 54, 55, 56, 57, 48, 49, 50, 51, 52, 34, 10, 119, 114, 105, 116, 101, 32, 53, 32, 34, 92, 110, 92, 34, 34, 32, 34, 34, 10, 99, 111, 109, 109, 105, 116, 32, 56, 10, 97, 98, 111, 114, 116, 32, 56, 10, 99, 97, 108, 109, 32, 57, 57, 57, 57, 10]
def kn : List St := match parseL knG with | .inl l => l | .inr _ => []
def knF : List Bs := [[100, 101, 108, 105, 118, 101, 114], [100, 101, 108, 105, 118, 101, 114, 32, 52, 48, 48], [100, 101, 108, 105, 118, 101, 114, 32, 48, 49], [100, 101, 108, 105, 118, 101, 114, 32, 45, 49], [100, 101, 108, 105, 118, 101, 114, 32, 49, 32, 50], [100, 101, 108, 105, 118, 101, 114, 32, 34, 49, 34], [116, 105, 99, 107, 32, 84, 67], [116, 105, 99, 107, 32, 34, 116, 99, 34], [99, 108, 101, 97, 110, 32, 49], [101, 118, 105, 99, 116, 32, 116, 99, 32, 48], [101, 118, 105, 99, 116, 32, 116, 99, 32, 49, 48, 48, 48], [101, 118, 105, 99, 116, 32, 49], [99, 114, 97, 115, 104, 32, 100, 99], [119, 97, 107, 101, 32, 100, 99, 32, 49, 48, 48, 48], [98, 101, 103, 105, 110, 32, 49], [114, 101, 97, 100, 32, 49, 32, 34, 34], [114, 101, 97, 100, 32, 49, 32, 34, 49, 50, 51, 52, 53, 54, 55, 56, 57, 48, 49, 50, 51, 52, 53, 54, 55, 34], [114, 101, 97, 100, 32, 49, 48, 57, 57, 53, 49, 49, 54, 50, 55, 55, 55, 55, 32, 34, 107, 34], [114, 101, 97, 100, 32, 49], [115, 99, 97, 110, 32, 49, 32, 34, 97, 34], [115, 99, 97, 110, 32, 49, 32, 34, 97, 34, 32, 98], [115, 99, 97, 110, 32, 49, 32, 34, 49, 50, 51, 52, 53, 54, 55, 56, 57, 48, 49, 50, 51, 52, 53, 54, 55, 34, 32, 34, 34], [119, 114, 105, 116, 101, 32, 49, 32, 34, 107, 34, 32, 34, 49, 50, 51, 52, 53, 54, 55, 56, 57, 48, 49, 50, 51, 52, 53, 54, 55, 56, 57, 48, 49, 50, 51, 52, 53, 34], [119, 114, 105, 116, 101, 32, 49, 32, 34, 107, 34], [119, 114, 105, 116, 101, 32, 49, 32, 34, 107, 34, 32, 34, 118, 34, 32, 34, 119, 34], [119, 114, 105, 116, 101, 32, 49, 32, 34, 107, 34, 34, 118, 34], [119, 114, 105, 116, 101, 32, 49, 32, 34, 107], [119, 114, 105, 116, 101, 32, 49, 32, 34, 92, 116, 34, 32, 34, 118, 34], [99, 111, 109, 109, 105, 116, 32, 48], [99, 111, 109, 109, 105, 116], [97, 98, 111, 114, 116, 32, 120], [99, 97, 108, 109, 32, 48], [99, 97, 108, 109, 32, 49, 48, 48, 48, 48], [99, 97, 108, 109]]
def knW : List Bs := [[84, 105, 99, 107, 32, 116, 99], [34, 116, 105, 99, 107, 34, 32, 116, 99], [34], [51], [116, 105, 99, 107, 115]]
def knB : List St := [⟨12, 0, 0, 0, 0, [], [], []⟩, ⟨-1, 0, 0, 0, 0, [], [], []⟩, ⟨3, 2, 0, 0, 0, [], [], []⟩, ⟨3, -1, 0, 0, 0, [], [], []⟩, ⟨3, 0, 1, 0, 0, [], [], []⟩, ⟨0, 400, 0, 0, 0, [], [], []⟩, ⟨0, -1, 0, 0, 0, [], [], []⟩, ⟨5, 1, 0, 0, 0, [], [], []⟩, ⟨6, 0, 0, 0, 0, [], [], []⟩, ⟨8, 0, -1, 0, 0, [], [], []⟩, ⟨11, 0, 0, 0, 0, [], [], []⟩, ⟨5, 0, 0, 0, 1, [], [], []⟩, ⟨10, 0, 0, 0, 1, [], [], []⟩, ⟨10, 0, 0, 1, 0, [107], [], []⟩, ⟨10, 0, 0, 1, 1, [107], [104], []⟩, ⟨10, 0, 0, 5, 1, [107], [], []⟩, ⟨10, 0, 0, 7, 1, [], [], []⟩, ⟨10, 0, 0, -1, 1, [], [], []⟩, ⟨3, 0, 0, 6, 0, [], [], []⟩]
set_option maxRecDepth 100000 in
theorem kn_parse : parseL knG = .inl kn := by decide +kernel
set_option maxRecDepth 100000 in
theorem kn_print : printL kn = (knG, 0) := by decide +kernel
set_option maxRecDepth 100000 in
theorem kn_len : kn.length = 20 := by decide +kernel
set_option maxRecDepth 100000 in
theorem kn_15 : (kn[15]?).map (·.key) = some [97, 92] := by decide +kernel
set_option maxRecDepth 100000 in
theorem kn_16 : (kn[16]?).map (·.key) = some [10, 34] := by decide +kernel
set_option maxRecDepth 100000 in
theorem kn_forms : ∀ t ∈ knF, wrongB t 4 0 = true ∧ t.length < 100 := by decide +kernel
set_option maxRecDepth 100000 in
theorem kn_words : ∀ t ∈ knW, wrongB ([99, 108, 101, 97, 110, 10, 10] ++ t ++ [10, 116, 105, 99, 107]) 19 2 = true ∧ t.length < 100 := by decide +kernel
set_option maxRecDepth 100000 in
theorem kn_bad : ∀ s ∈ knB, printL [s] = ([], 2) := by decide +kernel
theorem kn_badok : ∀ s ∈ knB, StOk s := by
  intro s hs
  simp only [knB, List.mem_cons, List.not_mem_nil, or_false] at hs
  rcases hs with rfl | rfl | rfl | rfl | rfl | rfl | rfl | rfl | rfl | rfl | rfl | rfl | rfl | rfl | rfl | rfl | rfl | rfl | rfl <;> exact ⟨by decide, by decide, by decide, by decide, by decide, by decide, by decide, by decide⟩
set_option maxRecDepth 100000 in
theorem kn_none : parseL [32, 9, 10, 35, 32, 120, 10] = .inl [] := by decide +kernel
theorem kn_ok : ∀ s ∈ kn, StOk s := fun s hs => ((parse_was kn_parse).1 s hs).ok

set_option maxRecDepth 100000 in
set_option maxHeartbeats 8000000 in
theorem known_c (w : World) (hw : WOk w) : Calls Tryz.prog 7 #[] w fun e w' => e = .returned (.bool true) ∧ Mod [] w w' := by
  have HW := hid hw
  clear hw
  go_enter Tryz.func7, Tryz.ntmps7
  go_wp2_with fail
  refine (show Calls Tryz.prog _ #[.string (str knG)] w _ from parse_c knG w (by decide) HW.out.mx).mono ?_
  intro e w1 hpg
  obtain ⟨hm, v, ve, l, rfl, hsts, ⟨a, cap, rfl⟩, h⟩ := ParseG.opened hpg
  clear hpg
  obtain ⟨rfl, rfl⟩ : l = kn ∧ ve = .nilIface := by
    rcases h with ⟨hp, rfl⟩ | ⟨c, i, hp, _⟩
    · rw [kn_parse] at hp; cases hp; exact ⟨rfl, rfl⟩
    · rw [kn_parse] at hp; cases hp
  have HM1 := hid hm
  have HS1 := hid hsts
  clear h hm hsts
  go_wp2_with fail
  refine (print_c kn _ w1 HS1.out kn_ok ((HW.out.mod HM1.out).tab)).mono ?_
  rintro e w2 ⟨hm, rfl⟩
  rw [kn_print]
  have HM2 := hid (HM1.out.tr hm)
  have HS2 := hid (HS1.out.mod hm)
  clear hm HM1 HS1
  obtain ⟨x15, h15, k15⟩ := Option.map_eq_some_iff.1 kn_15
  obtain ⟨x16, h16, k16⟩ := Option.map_eq_some_iff.1 kn_16
  obtain ⟨b, off, rfl, _, _, _, _, _, c15, _, _⟩ := HS2.out.at h15
  obtain ⟨b', off', e16, _, _, _, _, _, c16, _, _⟩ := HS2.out.at h16
  cases e16
  rw [k15] at c15
  rw [k16] at c16
  have hkl : kn.length = 20 := kn_len
  simp only [Nat.reduceMul] at c15 c16
  clear h15 h16 k15 k16
  go_wp2_with fail
  have hmF : Mod [] w2 (w2.alloc (.cells (knF.map fun t => Value.string (str t)).toArray 9)) := (Mod.refl [] w2).alloc _
  have HFB := hid (Blk.new w2 (knF.map fun t => Value.string (str t)).toArray 9)
  show Code.wp Tryz.prog _ _ _ (w2.alloc (.cells (knF.map fun t => Value.string (str t)).toArray 9))
  obtain ⟨w3, hw3⟩ : ∃ W, W = w2.alloc (.cells (knF.map fun t => Value.string (str t)).toArray 9) := ⟨_, rfl⟩
  obtain ⟨fb, hfb⟩ : ∃ b, b = w2.heap.size := ⟨_, rfl⟩
  rw [← hw3, ← hfb]
  rw [← hw3] at hmF HFB
  rw [← hfb] at HFB
  have HM3 := hid (HM2.out.tr hmF)
  clear hw3 hfb hmF c15 c16 hkl
  go_loopg [7] 34 (fun g i wr => ∃ j : Nat, i = .int .i64 j ∧ j + g = 34 ∧ Hid (Mod [] w3 wr))
  · exact ⟨0, rfl, by omega, hid (Mod.refl _ _)⟩
  · obtain ⟨j, rfl, hj, hM⟩ := hrel
    by_cases hlt : j < 34
    · obtain ⟨t, ht⟩ : ∃ t, knF[j]? = some t := ⟨_, List.getElem?_eq_getElem hlt⟩
      have hbw := hM.out.blk HFB.out (by simp)
      have g0 := hbw.cell j
      rw [List.getElem?_toArray, List.getElem?_map, ht] at g0
      simp only [Option.map_some] at g0
      have gl := hbw.lt
      have hj0 : (0 : Int) ≤ (j : Int) := by omega
      have hj1 : (j : Int) < 34 := by omega
      obtain ⟨hwr, htl⟩ := kn_forms t (List.mem_of_getElem? ht)
      have HWR := hid hwr
      have HTL := hid htl
      clear hbw ht hwr htl
      go_wp2_with fail
      refine (wrong_c t 4 0 wr (by have := HTL.out; omega) (HW.out.mod (HM3.out.tr hM.out))).mono ?_
      rintro e w4 ⟨rfl, hm⟩
      rw [HWR.out]
      have HM4 := hid (hM.out.tr hm)
      clear hm hM
      go_wp2
      go_roundg (gk - 1)
      case measure => omega
      case rel => exact ⟨j + 1, by go_num, by omega, HM4⟩
    · obtain rfl : j = 34 := by omega
      have HM4 := hid (HM3.out.tr hM.out)
      clear hM
      go_wp2_with fail
      have hmF : Mod [] wr (wr.alloc (.cells (knW.map fun t => Value.string (str t)).toArray 9)) := (Mod.refl [] wr).alloc _
      have HWB := hid (Blk.new wr (knW.map fun t => Value.string (str t)).toArray 9)
      show Code.wp Tryz.prog _ _ _ (wr.alloc (.cells (knW.map fun t => Value.string (str t)).toArray 9))
      obtain ⟨w5, hw5⟩ : ∃ W, W = wr.alloc (.cells (knW.map fun t => Value.string (str t)).toArray 9) := ⟨_, rfl⟩
      obtain ⟨wb, hwb⟩ : ∃ b, b = wr.heap.size := ⟨_, rfl⟩
      rw [← hw5, ← hwb]
      rw [← hw5] at hmF HWB
      rw [← hwb] at HWB
      have HM5 := hid (HM4.out.tr hmF)
      clear hw5 hwb hmF
      go_loopg [9] 5 (fun g i wr => ∃ j : Nat, i = .int .i64 j ∧ j + g = 5 ∧ Hid (Mod [] w5 wr))
      · exact ⟨0, rfl, by omega, hid (Mod.refl _ _)⟩
      · obtain ⟨j, rfl, hj, hM⟩ := hrel
        by_cases hlt : j < 5
        · obtain ⟨t, ht⟩ : ∃ t, knW[j]? = some t := ⟨_, List.getElem?_eq_getElem hlt⟩
          have hbw := hM.out.blk HWB.out (by simp)
          have g0 := hbw.cell j
          rw [List.getElem?_toArray, List.getElem?_map, ht] at g0
          simp only [Option.map_some] at g0
          have gl := hbw.lt
          have hj0 : (0 : Int) ≤ (j : Int) := by omega
          have hj1 : (j : Int) < 5 := by omega
          obtain ⟨hwr, htl⟩ := kn_words t (List.mem_of_getElem? ht)
          have hts : (str t).size = t.length := str_len t
          have HWR := hid hwr
          have HTL := hid htl
          have E1 : Hid ((⟨#[99, 108, 101, 97, 110, 10, 10]⟩ : ByteArray) ++ str t ++ (⟨#[10, 116, 105, 99, 107]⟩ : ByteArray) = str ([99, 108, 101, 97, 110, 10, 10] ++ t ++ [10, 116, 105, 99, 107])) := by
            show _ = _
            rw [show (⟨#[99, 108, 101, 97, 110, 10, 10]⟩ : ByteArray) = str [99, 108, 101, 97, 110, 10, 10] from rfl, show (⟨#[10, 116, 105, 99, 107]⟩ : ByteArray) = str [10, 116, 105, 99, 107] from rfl, str_cat, str_cat]
          clear hbw ht hwr
          go_wp2_with fail
          rw [E1.out]
          refine (wrong_c _ 19 2 wr (by have := HTL.out; simp; omega) (HW.out.mod (HM5.out.tr hM.out))).mono ?_
          rintro e w6 ⟨rfl, hm⟩
          rw [HWR.out]
          have HM6 := hid (hM.out.tr hm)
          clear hm hM
          go_wp2
          go_roundg (gk - 1)
          case measure => omega
          case rel => exact ⟨j + 1, by go_num, by omega, HM6⟩
        · obtain rfl : j = 5 := by omega
          have HN0 := hid (HM5.out.tr hM.out)
          clear hM
          go_wp2_with fail
          refine (call_c 0 1 [] [] [] wr).mono ?_
          rintro e y0 ⟨rfl, hm⟩
          have HN1 := hid (HN0.out.tr hm)
          clear hm
          go_wp2_with fail
          refine (call_c 1 0 [107] [] [] y0).mono ?_
          rintro e y1 ⟨rfl, hm⟩
          have HN2 := hid (HN1.out.tr hm)
          clear hm
          go_wp2_with fail
          refine (call_c 1 1 [107] [104] [] y1).mono ?_
          rintro e y2 ⟨rfl, hm⟩
          have HN3 := hid (HN2.out.tr hm)
          clear hm
          go_wp2_with fail
          refine (call_c 5 1 [107] [] [] y2).mono ?_
          rintro e y3 ⟨rfl, hm⟩
          have HN4 := hid (HN3.out.tr hm)
          clear hm
          go_wp2_with fail
          refine (call_c 7 1 [] [] [] y3).mono ?_
          rintro e y4 ⟨rfl, hm⟩
          have HN5 := hid (HN4.out.tr hm)
          clear hm
          go_wp2_with fail
          refine (call_c (-1) 1 [] [] [] y4).mono ?_
          rintro e y5 ⟨rfl, hm⟩
          have HN6 := hid (HN5.out.tr hm)
          clear hm
          go_wp2_with fail
          have hmF : Mod [] y5 (y5.alloc (.cells (flat stC knB).toArray 46)) := (Mod.refl [] y5).alloc _
          have hsb := StsV.built (l := knB) (Blk.new y5 (flat stC knB).toArray 46) (by decide)
          show Code.wp Tryz.prog _ _ _ (y5.alloc (.cells (flat stC knB).toArray 46))
          obtain ⟨w7, hw7⟩ : ∃ W, W = y5.alloc (.cells (flat stC knB).toArray 46) := ⟨_, rfl⟩
          obtain ⟨bb, hbb⟩ : ∃ b, b = y5.heap.size := ⟨_, rfl⟩
          rw [← hw7, ← hbb]
          rw [← hw7] at hmF hsb
          rw [← hbb] at hsb
          have HSB := hid hsb
          have HM7 := hid (HN6.out.tr hmF)
          clear hw7 hbb hmF hsb
          go_loopg [11] 19 (fun g i wr => ∃ j : Nat, i = .int .i64 j ∧ j + g = 19 ∧ Hid (Mod [] w7 wr))
          · exact ⟨0, rfl, by omega, hid (Mod.refl _ _)⟩
          · obtain ⟨j, rfl, hj, hM⟩ := hrel
            by_cases hlt : j < 19
            · obtain ⟨s, hs⟩ : ∃ s, knB[j]? = some s := ⟨_, List.getElem?_eq_getElem hlt⟩
              obtain ⟨b2, off2, e2, c0, c1, c2, c3, c4, c5, c6, c7⟩ := (HSB.out.mod hM.out).at hs
              cases e2
              rw [Nat.zero_add] at c0 c1 c2 c3 c4 c5 c6 c7
              have hj0 : (0 : Int) ≤ (j : Int) := by omega
              have hj1 : (j : Int) < 19 := by omega
              have HPB := hid (kn_bad s (List.mem_of_getElem? hs))
              have HPO := hid (kn_badok s (List.mem_of_getElem? hs))
              clear hs
              go_wp2_with fail
              have hmX : Mod [] wr (wr.alloc (.cells (flat stC [s]).toArray 46)) := (Mod.refl [] wr).alloc _
              have hpr := print_c [s] _ _ (StsV.built (l := [s]) (Blk.new wr (flat stC [s]).toArray 46) (by simp)) (fun x hx => by simp at hx; subst hx; exact HPO.out) ((HW.out.mod (HM7.out.tr (hM.out.tr hmX))).tab)
              rw [HPB.out] at hpr
              refine (show Calls Tryz.prog _ #[.slice (some ⟨wr.heap.size, 0, none⟩) 1 1] (wr.alloc (.cells (flat stC [s]).toArray 46)) _ from hpr).mono ?_
              rintro e w8 ⟨hm, rfl⟩
              have HM8 := hid ((hM.out.tr hmX).tr hm)
              clear hm hM hmX hpr
              go_wp2
              go_roundg (gk - 1)
              case measure => omega
              case rel => exact ⟨j + 1, by go_num, by omega, HM8⟩
            · obtain rfl : j = 19 := by omega
              have HM8 := hid (HM7.out.tr hM.out)
              clear hM
              go_wp2_with fail
              have hpr := print_c [] (.slice none 0 0) wr ⟨none, 0, rfl, by simp, .inl rfl⟩ (by simp) ((HW.out.mod HM8.out).tab)
              refine (show Calls Tryz.prog _ #[.slice none 0 0] wr _ from hpr).mono ?_
              rintro e z1 ⟨hm, rfl⟩
              rw [show printL [] = ([], 0) from rfl]
              have HZ1 := hid (HM8.out.tr hm)
              clear hm hpr
              go_wp2_with fail
              refine (show Calls Tryz.prog _ #[.string ⟨#[32, 9, 10, 35, 32, 120, 10]⟩] z1 _ from parse_c [32, 9, 10, 35, 32, 120, 10] z1 (by decide) (HW.out.mod HZ1.out).mx).mono ?_
              intro e z2 hpg
              obtain ⟨hm, vz, ve, l, rfl, hsts, ⟨az, capz, rfl⟩, h⟩ := ParseG.opened hpg
              clear hpg
              obtain ⟨rfl, rfl⟩ : l = [] ∧ ve = .nilIface := by
                rcases h with ⟨hp, rfl⟩ | ⟨c, i, hp, _⟩
                · rw [kn_none] at hp; cases hp; exact ⟨rfl, rfl⟩
                · rw [kn_none] at hp; cases hp
              have HZ2 := hid (HZ1.out.tr hm)
              clear h hm hsts
              go_wp2_with fail
              refine (works_c z2 (HW.out.mod HZ2.out)).mono ?_
              rintro e z3 ⟨rfl, hm⟩
              have HZ3 := hid (HZ2.out.tr hm)
              clear hm
              go_wp2_with fail
              go_ret
              exact ⟨rfl, HZ3.out⟩

theorem known_said (W : World) (hw : WOk W) : Calls Tryz.prog 7 #[] W fun e w' => e = .returned (.bool true) ∧ Mod [] W w' := known_c W hw
end
end Go.Proofs.YtibhkldnimfnkaaGreatDoor
