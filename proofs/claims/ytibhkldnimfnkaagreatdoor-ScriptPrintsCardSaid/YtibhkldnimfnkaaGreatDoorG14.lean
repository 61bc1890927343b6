/- Script: parts YS YT. -/
import Derived.Test.YtibhkldnimfnkaaGreatDoorG13

/- Script: a step is printed. -/
namespace Go.Proofs.YtibhkldnimfnkaaGreatDoor
section
set_option linter.unusedVariables false
set_option linter.unusedSimpArgs false
set_option linter.unusedSectionVars false
open Go.RowKit

theorem str_cat (a b : Bs) : str a ++ str b = str (a ++ b) := by
  have : (str a ++ str b).data = (str (a ++ b)).data := by simp [str]
  cases h1 : str a ++ str b with | mk d1 => cases h2 : str (a ++ b) with | mk d2 => rw [h1, h2] at this; simp at this; rw [this]
theorem Tab.lt {w : World} (h : Tab w) : 4 < w.heap.size := by
  unfold Tab Lib.TabIs World.var? at h
  rw [tab_glob] at h
  simp only [Option.bind_some] at h
  rcases Nat.lt_or_ge 4 w.heap.size with h' | h'
  · exact h'
  · rw [Array.getElem?_eq_none h'] at h; simp at h

theorem backS_eq (t : Bs) (s : St) : backS t s = decide (lineL t = .ok s) := by
  unfold backS
  cases lineL t with
  | ok u => simp
  | bad c => simp
  | blank => simp
theorem Mod.cell_eq {l : List Nat} {w w' : World} (h : Mod l w w') {b o : Nat} (hb : b < w.heap.size) (hl : b ∉ l) : w'.cell? ⟨b, o, none⟩ = w.cell? ⟨b, o, none⟩ := by
  have := h.block b hb hl
  unfold World.cell?
  simp only [this]

set_option maxRecDepth 100000 in
set_option maxHeartbeats 4000000 in
theorem printed_c (s : St) (w : World) (hs : StOk s) (ht : Tab w) :
    Calls Tryz.prog 28 #[stF s] w fun e w' => Mod [] w w' ∧ e = .returned (.tuple #[.string (str (outS s)), .bool (okS s)]) := by
  have hmf := mkFunc
  obtain ⟨W0, hW0⟩ : ∃ W, W = w.alloc (.cells (stA s) 46) := ⟨_, rfl⟩
  obtain ⟨sb, hsb⟩ : ∃ b, b = w.heap.size := ⟨_, rfl⟩
  have hm0 : Mod [] w W0 := by rw [hW0]; exact (Mod.refl [] w).alloc _
  have hb0 : Blk W0 sb (stA s) 46 := by rw [hW0, hsb]; exact Blk.new _ _ _
  have HM0 := hid hm0
  have HS0 := hid hb0
  have HW0 := hid hW0
  have Hsb := hid hsb
  have HT := hid ht
  have HOK := hid hs
  clear hm0 hb0 hW0 hsb ht hs
  go_enter Tryz.func28, Tryz.ntmps28
  go_wp2_with fail
  rw [← HW0.out, ← Hsb.out]
  refine (rows_c W0).mono ?_
  rintro e w1 ⟨hm, v, rfl, hrv⟩
  have HM1 := hid (HM0.out.tr hm)
  have HS1 := hid (hm.blk HS0.out (by simp))
  have HRV := hid hrv
  clear hm hrv HW0
  go_wp2_with fail
  refine (rindex_c W0.heap.size w1 v HRV.out _ _ _ (printed1_c sb s w1 HS1.out)).mono ?_
  rintro e w2 ⟨rfl, hm⟩
  have HM2 := hid (HM1.out.tr hm)
  have HS2 := hid (hm.blk HS1.out (by simp))
  have hrv := HRV.out.later (Later.mod hm)
  clear hm HRV HS1 HM1
  rcases idxR_find (fun r => r.kind == s.kind && r.ck == s.ck) with ⟨i, r, hi, hi18, hri, hf⟩ | ⟨hi, hf⟩
  · have hrow : rowOf s = some r := hf
    have HE : Hid (outS s = prR r s ∧ okS s = decide (lineL (prR r s) = .ok s)) := ⟨by unfold outS; rw [hrow], by unfold okS; rw [hrow]⟩
    rw [hi]
    obtain ⟨B, c, hB, rfl, hbk, hrs⟩ := hrv
    obtain ⟨sl, c0, c1, c2, c3, hpl⟩ := hrs.at i r hri
    obtain ⟨bb, cap, rfl, hcap⟩ := hpl.slice
    have d0 := hbk.cell (i * 4)
    have d3 := hbk.cell (i * 4 + 3)
    have dl := hbk.lt
    rw [List.getElem?_toArray, c0] at d0
    rw [List.getElem?_toArray, c3] at d3
    have HPL := hid hpl
    have hi0 : (0 : Int) ≤ (i : Int) := by omega
    have hi1 : ¬ (i : Int) < 0 := by omega
    have hi2 : (i : Int) < 18 := by omega
    have hrm : r ∈ rowsL := List.mem_of_getElem? hri
    have hpn : r.pl.length < 4 := by
      have := List.all_eq_true.1 rows_okW r hrm
      simp only [Bool.and_eq_true, decide_eq_true_eq] at this
      exact this.2
    have HRM := hid hrm
    clear hf hi c0 c1 c2 c3 hpl hbk hrs hri hrow hrm
    go_wp2_with fail
    obtain ⟨W3, hW3⟩ : ∃ W, W = w2.alloc (.cells #[.string (str r.word)] 9) := ⟨_, rfl⟩
    obtain ⟨tb, htb⟩ : ∃ b, b = w2.heap.size := ⟨_, rfl⟩
    rw [← hW3, ← htb]
    have hm3 : Mod [] w2 W3 := by rw [hW3]; exact (Mod.refl [] w2).alloc _
    have HTB : Hid (Blk W3 tb #[.string (str (preR r s 0))] 9) := by rw [hW3, htb]; exact Blk.new _ _ _
    have HM3 := hid (HM2.out.tr hm3)
    have HS3 := hid (hm3.blk HS2.out (by simp))
    have HM23 := hid hm3
    have HTW := hid (show w2.heap.size ≤ tb by omega)
    have hst : sb ≠ tb := by have := HS2.out.lt; omega
    have htw : w.heap.size ≤ tb := by have := HM2.out.size; omega
    have hpi : (r.pl.length : Int) < 4 := by omega
    clear hW3 htb hm3 HS2 d0 d3 dl
    go_loopg [28] r.pl.length (fun g i wr => ∃ j : Nat, i = .int .i64 j ∧ j + g = r.pl.length ∧ Hid (Blk wr tb #[.string (str (preR r s j))] 9) ∧ Hid (Mod [tb] W3 wr))
    · exact ⟨0, rfl, by omega, HTB, hid (Mod.refl _ _)⟩
    · obtain ⟨j, rfl, hj, hB, hM⟩ := hrel
      by_cases hlt : j < r.pl.length
      · obtain ⟨p, hp⟩ : ∃ p, r.pl[j]? = some p := ⟨_, List.getElem?_eq_getElem hlt⟩
        have hm2r : Mod [tb] w2 wr := HM23.out.any.trans hM.out (m := [tb]) (fun _ h _ => h) (fun _ h _ => h)
        obtain ⟨B', f, g', rfl, hBl2, p0, p1, hpv⟩ := HPL.out.at j p hp
        obtain ⟨k1, cp1, k2, cp2, e, en1, en2, hread, hprint⟩ := hpv
        obtain ⟨rfl, rfl⟩ : f = .func (.func k1) #[] cp1 ∧ g' = .func (.func k2) #[] cp2 := by simpa using e
        rw [← hm2r.cell_eq hBl2 (by have := HTW.out; simp; omega)] at p0 p1
        have hBl : B' < wr.heap.size := Nat.lt_of_lt_of_le hBl2 hm2r.size
        have HPRINT := hid hprint
        have hsf := fun (f : Nat) (a : Addr) (c : Array Value) (w : World) => run_store Tryz.prog w a (.func (.func f) #[] c) .plain rfl
        have hj0 : (0 : Int) ≤ (j : Int) := by omega
        have hj1 : (j : Int) < (r.pl.length : Int) := by omega
        have hcp2 : j < cap := by omega
        have HPRE : Hid (preR r s (j + 1) = preR r s j ++ 32 :: prP p s) := preR_succ r s j p hp
        have HLEN : Hid ((preR r s j).length ≤ 6000100 ∧ (prP p s).length ≤ 2000002) := ⟨by have := preR_len HRM.out HOK.out j (by omega); show (preR r s j).length ≤ _; omega, prP_len p HOK.out⟩
        have HM2R := hid hm2r
        clear e hread hprint en1 hp hBl2 hm2r
        go_wp2_with fail
        obtain ⟨X, hX⟩ : ∃ X, X = wr.alloc (.cells #[.func (.func k1) #[] cp1, .func (.func k2) #[] cp2] 99) := ⟨_, rfl⟩
        obtain ⟨pb, hpb⟩ : ∃ pb, pb = wr.heap.size := ⟨_, rfl⟩
        rw [← hX, ← hpb]
        have hmX : Mod [] wr X := by rw [hX]; exact (Mod.refl [] wr).alloc _
        have HPB : Hid (Blk X pb #[.func (.func k1) #[] cp1, .func (.func k2) #[] cp2] 99) := by rw [hX, hpb]; exact Blk.new _ _ _
        have HBX := hid (hmX.blk hB.out (by simp))
        have HM2X := hid (HM2R.out.trans hmX (fun _ h _ => h) (fun _ h _ => by cases h) (m := [tb]))
        have HMX := hid (hM.out.trans hmX (fun _ h _ => h) (fun _ h _ => by cases h) (m := [tb]))
        have HSX := hid (HMX.out.blk HS3.out (by simpa using hst))
        have HTX : Hid (∀ W, Mod [tb] X W → Tab W) := fun W hW => (HT.out.mod (HM3.out.any.trans (HMX.out.trans hW (fun _ h _ => h) (fun _ h _ => h) (m := [tb])) (m := [tb]) (fun _ h _ => h) (fun _ h _ => h)) (by have := HT.out.lt; simp; omega))
        have HPX : Hid (∀ W, Mod [tb] X W → Calls Tryz.prog k2 (#[stF s] ++ cp2) W fun e w'' => e = .returned (.string (str (prP p s))) ∧ Mod [] W w'') :=
          fun W hW => HPRINT.out W ⟨[tb], HM2X.out.trans hW (fun _ h _ => h) (fun _ h _ => h), fun y hy => .inr (by simp at hy; subst hy; exact HTW.out)⟩ (HTX.out W hW) s HOK.out
        have hne1 : pb ≠ tb := by rw [hpb]; have := hB.out.lt; omega
        clear HPRINT hB hM hX hpb hmX hBl p0 p1 HM2R
        obtain ⟨cur, hcur⟩ : ∃ c, c = preR r s j := ⟨_, rfl⟩
        obtain ⟨pr, hpr⟩ : ∃ c, c = prP p s := ⟨_, rfl⟩
        rw [← hcur, ← hpr] at HPRE HLEN
        rw [← hcur] at HBX
        rw [← hpr] at HPX
        clear hcur hpr
        have E1 : Hid ((⟨#[32]⟩ : ByteArray) ++ str pr = str (32 :: pr)) := str_cat [32] pr
        have E2 : Hid (str cur ++ str (32 :: pr) = str (cur ++ 32 :: pr)) := str_cat cur (32 :: pr)
        have L1 : Hid ((str pr).size ≤ 2000002 ∧ (str cur).size ≤ 6000100 ∧ (str (32 :: pr)).size ≤ 2000003) := ⟨by rw [str_len]; exact HLEN.out.2, by rw [str_len]; exact HLEN.out.1, by rw [str_len]; have := HLEN.out.2; simp; omega⟩
        refine wp_region_stepsJ (by rfl) (by kernel_rfl)
          (fun W => Mod [tb] X W)
          (fun i v W => match i with
            | 0 => v = .string (str cur)
            | 1 => v = .pointer (some ⟨pb, 1, none⟩)
            | 2 => v = .func (.func k2) #[] cp2
            | 3 => v = stF s
            | 4 => v = .string (str pr)
            | 5 => v = .string (str (32 :: pr))
            | 6 => v = .string (str (cur ++ 32 :: pr))
            | 7 => Blk W tb #[.string (str (cur ++ 32 :: pr))] 9
            | _ => True)
          (fun listed W => (listed.getD 6 false = true → listed.getD 0 false = true) ∧ (listed.getD 7 false = true → listed.getD 6 false = true) ∧ (listed.getD 7 false = false → Blk W tb #[.string (str cur)] 9)) ?h0 ?hJ ?steps ?fin
        case h0 => exact (Mod.refl [tb] X).drew
        case hJ => exact ⟨by simp, by simp, fun _ => HBX.out.drew⟩
        case steps =>
          have J1 : ∀ (listed : Array Bool) (i : Nat) (W W' : World), i ≠ 6 → i ≠ 7 → Mod [] W W' → ((listed.getD 6 false = true → listed.getD 0 false = true) ∧ (listed.getD 7 false = true → listed.getD 6 false = true) ∧ (listed.getD 7 false = false → Blk W tb #[.string (str cur)] 9)) →
              (((listed.setIfInBounds i true).getD 6 false = true → (listed.setIfInBounds i true).getD 0 false = true) ∧ ((listed.setIfInBounds i true).getD 7 false = true → (listed.setIfInBounds i true).getD 6 false = true) ∧ ((listed.setIfInBounds i true).getD 7 false = false → Blk W' tb #[.string (str cur)] 9)) := by
            intro listed i W W' h6 h7 hm ⟨a1, a2, a3⟩
            rw [getD_set_ne false h6, getD_set_ne false h7]
            refine ⟨fun h => ?_, a2, fun h => hm.blk (a3 h) (by simp)⟩
            by_cases h0 : i = 0
            · subst h0
              have := a1 h
              rw [Array.getD_eq_getD_getElem?] at this ⊢
              by_cases hlt : 0 < listed.size
              · rw [Array.getElem?_setIfInBounds_self_of_lt hlt]; rfl
              · rw [Array.getElem?_eq_none (by omega)] at this; cases this
            · rw [getD_set_ne false h0]; exact a1 h
          refine ⟨?s0, ?s1, ?s2, ?s3, ?s4, ?s5, ?s6, ?s7, trivial⟩
          case s0 =>
            intro listed a W hR hJ hsz hun hall K hK
            have e1 : a.tmps[6]?.getD undef = _ := hR.old' 6 (by rfl)
            simp only [List.getElem?_toArray, List.getElem?_cons_zero, List.getElem?_cons_succ, Option.getD_some] at e1
            have hu : listed.getD 0 false = false := by
              rw [Array.getD_eq_getD_getElem?] at hun ⊢
              have h8 : 0 < listed.size := by rw [hsz]; decide
              rw [Array.getElem?_eq_getElem h8] at hun ⊢
              simpa using hun
            have h7 : listed.getD 7 false = false := by
              cases h : listed.getD 7 false with
              | false => rfl
              | true => rw [hJ.1 (hJ.2.1 h)] at hu; cases hu
            have c0 := (hJ.2.2 h7).cell 0
            simp only [List.getElem?_toArray, List.getElem?_cons_zero] at c0
            exact Oper.wp_value (.string (str cur)) (by simp [go_sem, e1, c0]) (hK _ _ hR.world rfl (fun _ _ _ h => h) (J1 _ _ _ _ (by decide) (by decide) (Mod.refl _ _) hJ))
          case s1 =>
            intro listed a W hR hJ hsz hun hall K hK
            have e1 : a.tmps[8]?.getD undef = _ := hR.old' 8 (by rfl)
            simp only [List.getElem?_toArray, List.getElem?_cons_zero, List.getElem?_cons_succ, Option.getD_some] at e1
            exact Oper.wp_value (.pointer (some ⟨pb, 1, none⟩)) (by simp [go_sem, e1]) (hK _ _ hR.world rfl (fun _ _ _ h => h) (J1 _ _ _ _ (by decide) (by decide) (Mod.refl _ _) hJ))
          case s2 =>
            intro listed a W hR hJ hsz hun hall K hK
            have e1 : a.tmps[33]?.getD undef = .pointer (some ⟨pb, 1, none⟩) := hR.val 1 rfl rfl (hall ⟨1, .data⟩ (by simp) rfl)
            have hmw : Mod [tb] X W := hR.world
            have c0 := (hmw.blk HPB.out (by simpa using hne1)).cell 1
            simp only [List.getElem?_toArray, List.getElem?_cons_zero, List.getElem?_cons_succ] at c0
            exact Oper.wp_value (.func (.func k2) #[] cp2) (by simp [go_sem, e1, c0]) (hK _ _ hR.world rfl (fun _ _ _ h => h) (J1 _ _ _ _ (by decide) (by decide) (Mod.refl _ _) hJ))
          case s3 =>
            intro listed a W hR hJ hsz hun hall K hK
            have e1 : a.tmps[1]?.getD undef = _ := hR.old' 1 (by rfl)
            simp only [List.getElem?_toArray, List.getElem?_cons_zero, List.getElem?_cons_succ, Option.getD_some] at e1
            have hmw : Mod [tb] X W := hR.world
            obtain ⟨c0, c1, c2, c3, c4, c5, c6, c7⟩ := st_cells (hmw.blk HSX.out (by simpa using hst))
            exact Oper.wp_value (stF s) (by simp [go_sem, e1, c0, c1, c2, c3, c4, c5, c6, c7]) (hK _ _ hR.world rfl (fun _ _ _ h => h) (J1 _ _ _ _ (by decide) (by decide) (Mod.refl _ _) hJ))
          case s4 =>
            intro listed a W hR hJ hsz hun hall K hK
            have e1 : a.tmps[34]?.getD undef = .func (.func k2) #[] cp2 := hR.val 2 rfl rfl (hall ⟨2, .data⟩ (by simp) rfl)
            have e2 : a.tmps[35]?.getD undef = stF s := hR.val 3 rfl rfl (hall ⟨3, .data⟩ (by simp) rfl)
            have hmw : Mod [tb] X W := hR.world
            refine Oper.wp_call k2 (#[stF s] ++ cp2) (by simp [go_sem, e1, e2, en2]) (HPX.out W hmw) ?_
            rintro e W' ⟨rfl, hm⟩
            refine hK _ _ (hmw.trans hm (fun _ h _ => h) (fun _ h _ => by cases h)) rfl (fun j v hj h => match j, hj, h with
              | 0, _, h | 1, _, h | 2, _, h | 3, _, h | 4, _, h | 5, _, h | 6, _, h => h
              | 7, _, h => hm.blk h (by simp)
              | _ + 8, _, h => h) (J1 _ _ _ _ (by decide) (by decide) hm hJ)
          case s5 =>
            intro listed a W hR hJ hsz hun hall K hK
            have e1 : a.tmps[36]?.getD undef = .string (str pr) := hR.val 4 rfl rfl (hall ⟨4, .data⟩ (by simp) rfl)
            have l1 := HLEN.out.2
            exact Oper.wp_value (.string (str (32 :: pr))) (by rw [← E1.out]; simp [go_sem, e1]; omega) (hK _ _ hR.world rfl (fun _ _ _ h => h) (J1 _ _ _ _ (by decide) (by decide) (Mod.refl _ _) hJ))
          case s6 =>
            intro listed a W hR hJ hsz hun hall K hK
            have e1 : a.tmps[32]?.getD undef = .string (str cur) := hR.val 0 rfl rfl (hall ⟨0, .data⟩ (by simp) rfl)
            have e2 : a.tmps[37]?.getD undef = .string (str (32 :: pr)) := hR.val 5 rfl rfl (hall ⟨5, .data⟩ (by simp) rfl)
            have l1 := HLEN.out
            have k6 : listed.getD 7 false = false := by
              cases h : listed.getD 7 false with
              | false => rfl
              | true =>
                have h6 := hJ.2.1 h
                rw [Array.getD_eq_getD_getElem?] at hun h6
                have h8 : 6 < listed.size := by rw [hsz]; decide
                rw [Array.getElem?_eq_getElem h8] at hun h6
                simp at hun h6
                rw [hun] at h6
                cases h6
            have h0 : listed.getD 0 false = true := hall ⟨0, .data⟩ (by simp) rfl
            refine Oper.wp_value (.string (str (cur ++ 32 :: pr))) (by rw [← E2.out]; simp [go_sem, e1, e2]; omega) (hK _ _ hR.world rfl (fun _ _ _ h => h) ⟨fun _ => ?_, fun h => ?_, fun _ => hJ.2.2 k6⟩)
            · rw [getD_set_ne false (show (6 : Nat) ≠ 0 by decide)]; exact h0
            · rw [getD_set_ne false (show (6 : Nat) ≠ 7 by decide)] at h
              rw [k6] at h
              cases h
          case s7 =>
            intro listed a W hR hJ hsz hun hall K hK
            have e1 : a.tmps[6]?.getD undef = _ := hR.old' 6 (by rfl)
            have e2 : a.tmps[38]?.getD undef = .string (str (cur ++ 32 :: pr)) := hR.val 6 rfl rfl (hall ⟨6, .data⟩ (by simp) rfl)
            simp only [List.getElem?_toArray, List.getElem?_cons_zero, List.getElem?_cons_succ, Option.getD_some] at e1
            have h6 : listed.getD 6 false = true := hall ⟨6, .data⟩ (by simp) rfl
            have hu : listed.getD 7 false = false := by
              rw [Array.getD_eq_getD_getElem?] at hun ⊢
              have h8 : 7 < listed.size := by rw [hsz]; decide
              rw [Array.getElem?_eq_getElem h8] at hun ⊢
              simpa using hun
            have hbw := hJ.2.2 hu
            have c0 := hbw.cell 0
            have z0 := hbw.free 0
            simp only [List.getElem?_toArray, List.getElem?_cons_zero] at c0
            have hmw : Mod [tb] X W := hR.world
            have h3 : Blk (W.setCell ⟨tb, 0, none⟩ (.string (str (cur ++ 32 :: pr)))) tb #[.string (str (cur ++ 32 :: pr))] 9 := hbw.set 0 _
            refine Oper.wp_skip (w' := W.setCell ⟨tb, 0, none⟩ (.string (str (cur ++ 32 :: pr)))) (by simp [go_sem, e1, e2, c0, z0]) (hK undef _ (hmw.setCell (Or.inl (by simp)) _) h3 (fun j v hj h => match j, hj, h with
              | 0, _, h | 1, _, h | 2, _, h | 3, _, h | 4, _, h | 5, _, h | 6, _, h => h
              | 7, hj, _ => absurd rfl hj
              | _ + 8, _, h => h) ⟨fun _ => ?_, fun _ => ?_, fun h => ?_⟩)
            · rw [getD_set_ne false (show (7 : Nat) ≠ 0 by decide)]; exact hJ.1 h6
            · rw [getD_set_ne false (show (7 : Nat) ≠ 6 by decide)]; exact h6
            · exfalso
              have h8 : 7 < listed.size := by rw [hsz]; decide
              rw [Array.getD_eq_getD_getElem?, Array.getElem?_setIfInBounds_self_of_lt h8] at h
              cases h
        case fin =>
          intro listed a W hR hl
          have hbb : Blk W tb #[.string (str (cur ++ 32 :: pr))] 9 := hR.got 7 _ rfl (hl 7 (by decide))
          have hmW : Mod [tb] X W := hR.world
          have hfr := hR.frame
          have HBB : Hid (Blk W tb #[.string (str (preR r s (j + 1)))] 9) := by rw [HPRE.out]; exact hbb
          have HMW := hid (HMX.out.trans hmW (fun _ h _ => h) (fun _ h _ => h) (m := [tb]))
          clear hR hl hbb hmW
          simp only [List.filterMap_cons, List.filterMap_nil, List.foldl_cons, List.foldl_nil, List.setIfInBounds_toArray, List.set_cons_succ, List.set_cons_zero] at hfr
          generalize a.tmps.getD 32 undef = v32 at hfr
          generalize a.tmps.getD 33 undef = v33 at hfr
          generalize a.tmps.getD 34 undef = v34 at hfr
          generalize a.tmps.getD 35 undef = v35 at hfr
          generalize a.tmps.getD 36 undef = v36 at hfr
          generalize a.tmps.getD 37 undef = v37 at hfr
          generalize a.tmps.getD 38 undef = v38 at hfr
          rw [hfr]
          clear hfr
          go_wp2
          go_roundg (gk - 1)
          case measure => omega
          case rel => exact ⟨j + 1, by go_num, by omega, HBB, HMW⟩
      · obtain rfl : j = r.pl.length := by omega
        have hbb : Blk wr tb #[.string (str (prR r s))] 9 := by rw [← preR_all]; exact hB.out
        obtain ⟨t, htt⟩ : ∃ t, t = prR r s := ⟨_, rfl⟩
        have htl : t.length < 4294967000 := by
          have := preR_len HRM.out HOK.out r.pl.length (Nat.le_refl _)
          rw [preR_all, ← htt] at this
          omega
        rw [← htt] at hbb HE
        have HB := hid hbb
        have HTL := hid htl
        have HMF := hid hM.out
        have HSR := hid (hM.out.blk HS3.out (by simpa using hst))
        clear hB hM hbb htt htl
        go_wp2_with fail
        obtain ⟨X, hX⟩ : ∃ X, X = wr.alloc (.cells #[.bool false] 4) := ⟨_, rfl⟩
        rw [← hX]
        have hmX : Mod [] wr X := by rw [hX]; exact (Mod.refl [] wr).alloc _
        have hbX : Blk X wr.heap.size #[.bool false] 4 := by rw [hX]; exact Blk.new _ _ _
        have htbX := hmX.blk HB.out (by simp)
        refine (try_c X tb sb wr.heap.size t s false htbX (hmX.blk HSR.out (by simp)) hbX HTL.out).mono ?_
        rintro e w5 ⟨hm5, b1, c, rfl, hb1, hR⟩
        have hti : tb ≠ wr.heap.size := by have := HB.out.lt; omega
        have ht5 := hm5.blk htbX (by simpa using hti)
        have t0 := ht5.cell 0
        have tl := ht5.lt
        have i0 := hb1.cell 0
        have il := hb1.lt
        simp only [List.getElem?_toArray, List.getElem?_cons_zero] at t0 i0
        have HR : Hid (okS s = (b1 && c == 0)) := by show _ = _; rw [hR, HE.out.2, backS_eq]
        have HMZ : Hid (Mod [] w w5) := (HM3.out.trans HMF.out (m := []) (fun _ h _ => h) (fun y hy hlt => by simp at hy; omega)).trans (hmX.any.trans hm5 (m := [wr.heap.size]) (fun _ h _ => h) (fun _ h _ => h)) (fun _ h _ => h) (fun y hy hlt => by
          simp at hy
          have := HM3.out.size
          have := HMF.out.size
          omega)
        clear hX hmX hbX htbX hm5 hb1 hR ht5
        cases b1 with
        | false =>
          have HR2 : Hid (okS s = false) := HR.out
          go_wp2_with fail
          refine bodyPost_ret (v := .tuple #[.string (str t), .bool false]) (by simp [results, Tryz.results28, go_sem]) rfl ⟨HMZ.out, ?_⟩
          rw [HE.out.1, HR2.out]
        | true =>
          by_cases hc : c = 0
          · have HR2 : Hid (okS s = true) := by show _ = _; rw [HR.out, hc]; rfl
            subst hc
            go_wp2_with fail
            refine bodyPost_ret (v := .tuple #[.string (str t), .bool true]) (by simp [results, Tryz.results28, go_sem]) rfl ⟨HMZ.out, ?_⟩
            rw [HE.out.1, HR2.out]
          · have HR2 : Hid (okS s = false) := by show _ = _; rw [HR.out]; simp [hc]
            go_wp2_with fail
            refine bodyPost_ret (v := .tuple #[.string (str t), .bool false]) (by simp [results, Tryz.results28, go_sem, hc]) rfl ⟨HMZ.out, ?_⟩
            rw [HE.out.1, HR2.out]
  · have hrow : rowOf s = none := hf
    have HE : Hid (outS s = [] ∧ okS s = false) := ⟨by unfold outS; rw [hrow], by unfold okS; rw [hrow]⟩
    rw [hi]
    clear hi hf hrv hrow
    go_wp2_with fail
    refine bodyPost_ret (v := .tuple #[.string ⟨#[]⟩, .bool false]) (by simp [results, Tryz.results28, go_sem]) rfl ⟨HM2.out, ?_⟩
    rw [HE.out.1, HE.out.2]
end
end Go.Proofs.YtibhkldnimfnkaaGreatDoor

/- Script: steps are printed. -/
namespace Go.Proofs.YtibhkldnimfnkaaGreatDoor
section
set_option linter.unusedVariables false
set_option linter.unusedSimpArgs false
set_option linter.unusedSectionVars false
open Go.RowKit

/-- A slice of steps that may be read. -/
def StsV (w : World) (v : Value) (l : List St) : Prop := ∃ a cap, v = .slice a l.length cap ∧ l.length ≤ 9223372036854775807 ∧ IsSeq 8 stC w a l
theorem IsSeq.mod {X : Type} {C : Nat} {cellsX : X → List Value} {w w' : World} {a : Option Addr} {xs : List X} (h : IsSeq C cellsX w a xs) (hm : Mod [] w w') : IsSeq C cellsX w' a xs := by
  rcases h with rfl | ⟨b, off, rfl, h⟩
  · exact .inl rfl
  · exact .inr ⟨b, off, rfl, fun i x hx j v hj => hm.cellSome (h i x hx j v hj) (by simp)⟩
theorem StsV.mod {w w' : World} {v : Value} {l : List St} (h : StsV w v l) (hm : Mod [] w w') : StsV w' v l := by
  obtain ⟨a, cap, e, h1, h2⟩ := h
  exact ⟨a, cap, e, h1, h2.mod hm⟩
theorem StsV.at {w : World} {a : Option Addr} {n cap : Nat} {l : List St} (h : StsV w (.slice a n cap) l) {i : Nat} {s : St} (hs : l[i]? = some s) : ∃ b off, a = some ⟨b, off, none⟩ ∧
    w.cell? ⟨b, off + i * 8, none⟩ = some (.int .i64 s.kind) ∧ w.cell? ⟨b, off + i * 8 + 1, none⟩ = some (.int .i64 s.a) ∧ w.cell? ⟨b, off + i * 8 + 2, none⟩ = some (.int .i64 s.b) ∧ w.cell? ⟨b, off + i * 8 + 3, none⟩ = some (.int .i64 s.ck) ∧
    w.cell? ⟨b, off + i * 8 + 4, none⟩ = some (.int .u64 (s.ts : Int)) ∧ w.cell? ⟨b, off + i * 8 + 5, none⟩ = some (.string (str s.key)) ∧ w.cell? ⟨b, off + i * 8 + 6, none⟩ = some (.string (str s.hi)) ∧ w.cell? ⟨b, off + i * 8 + 7, none⟩ = some (.string (str s.val)) := by
  obtain ⟨a', cap', e, h1, h2⟩ := h
  cases e
  obtain ⟨b, off, rfl, h3⟩ := h2.at (Mod.refl [] w) hs
  exact ⟨b, off, rfl, h3 0 _ rfl, h3 1 _ rfl, h3 2 _ rfl, h3 3 _ rfl, h3 4 _ rfl, h3 5 _ rfl, h3 6 _ rfl, h3 7 _ rfl⟩
theorem outS_len {s : St} (h : StOk s) : (outS s).length ≤ 6000019 := by
  unfold outS
  cases hr : rowOf s with
  | none => simp
  | some r =>
    have hm : r ∈ rowsL := List.mem_of_find?_eq_some hr
    have h1 := preR_len hm h r.pl.length (Nat.le_refl _)
    rw [preR_all] at h1
    have hpn : r.pl.length < 4 := by
      have := List.all_eq_true.1 rows_okW r hm
      simp only [Bool.and_eq_true, decide_eq_true_eq] at this
      exact this.2
    show (prR r s).length ≤ _
    omega
theorem printN_cons (s : St) (l : List St) (o : Bs) : printN (s :: l) o = if okS s = true then printN l (o ++ (outS s ++ [10])) else none := by
  rw [printN, ← printed_eq]
  cases okS s <;> rfl

set_option maxRecDepth 100000 in
set_option maxHeartbeats 2000000 in
theorem print_c (l : List St) (v : Value) (w : World) (hv : StsV w v l) (hok : ∀ s ∈ l, StOk s) (ht : Tab w) :
    Calls Tryz.prog 15 #[v] w fun e w' => Mod [] w w' ∧ e = .returned (.tuple #[.string (str (printL l).1), .int .i64 ((printL l).2 : Int)]) := by
  have HV := hid hv
  obtain ⟨a, cap, rfl, hl63, _⟩ := hv
  have HOK := hid hok
  have HT := hid ht
  have HP : Hid (printL l = if 4096 < l.length then ([], 3) else match printN l [] with | none => ([], 2) | some o => (o, 0)) := rfl
  clear hok ht
  by_cases hlong : 4096 < l.length
  · have HP2 : Hid (printL l = ([], 3)) := by show _ = _; rw [HP.out, if_pos hlong]
    have g1 : (4096 : Int) < (l.length : Int) := by omega
    go_enter Tryz.func15, Tryz.ntmps15
    go_wp2_with fail
    refine bodyPost_ret (v := .tuple #[.string ⟨#[]⟩, .int .i64 3]) (by simp [results, Tryz.results15, go_sem]) rfl ⟨Mod.refl _ _, ?_⟩
    rw [HP2.out]
    rfl
  · have g1 : ¬ (4096 : Int) < (l.length : Int) := by omega
    obtain ⟨W0, hW0⟩ : ∃ W, W = w.alloc (.cells #[.pointer none, .slice none 0 0] 70) := ⟨_, rfl⟩
    obtain ⟨bb, hbb⟩ : ∃ b, b = w.heap.size := ⟨_, rfl⟩
    have HM0 : Hid (Mod [] w W0) := by rw [hW0]; exact (Mod.refl [] w).alloc _
    have HB0 : Hid (Bld bb [] W0) := by rw [hW0, hbb]; exact Bld.start w
    have Hbb := hid hbb
    have HW0 := hid hW0
    have HPN : Hid (printL l = match printN l [] with | none => ([], 2) | some o => (o, 0)) := by show _ = _; rw [HP.out, if_neg hlong]
    clear hbb hW0 HP
    go_enter Tryz.func15, Tryz.ntmps15
    go_wp2_with fail
    rw [← HW0.out, ← Hbb.out]
    have hln : (l.length : Int) ≤ 4096 := by omega
    go_loopg [14] l.length (fun g i wr => ∃ (j : Nat) (o : Bs), i = .int .i64 j ∧ j + g = l.length ∧ Hid (o.length ≤ j * 6000020) ∧ Hid (printN (l.drop j) o = printN l []) ∧ Hid (Bld bb o wr) ∧ Hid (Mod [] w wr))
    · exact ⟨0, [], rfl, by omega, hid (by simp), hid rfl, HB0, HM0⟩
    · obtain ⟨j, o, rfl, hj, hO, hA, hB, hM⟩ := hrel
      by_cases hlt : j < l.length
      · obtain ⟨s, hs⟩ : ∃ s, l[j]? = some s := ⟨_, List.getElem?_eq_getElem hlt⟩
        obtain ⟨b, off, rfl, c0, c1, c2, c3, c4, c5, c6, c7⟩ := (HV.out.mod hM.out).at hs
        have hj0 : (0 : Int) ≤ (j : Int) := by omega
        have hj1 : (j : Int) < (l.length : Int) := by omega
        have HSO := hid (HOK.out s (List.mem_of_getElem? hs))
        have hA1 := hA.out
        rw [drop_at hs, printN_cons] at hA1
        have HA1 := hid hA1
        clear hs hA hA1
        go_wp2_with fail
        have hmA : Mod [] w (wr.alloc (.cells (stA s) 46)) := hM.out.alloc _
        have HPC := hid (printed_c s (wr.alloc (.cells (stA s) 46)) HSO.out (HT.out.mod hmA (by simp)))
        have HBA := hid (hB.out.mod ((Mod.refl [] wr).alloc (.cells (stA s) 46)))
        have HMA := hid hmA
        clear hmA hB hM
        refine HPC.out.mono ?_
        rintro e w2 ⟨hm2, rfl⟩
        have HB2 := hid (HBA.out.mod hm2)
        have HM2 := hid (HMA.out.tr hm2)
        have hol := outS_len HSO.out
        obtain ⟨t, htt⟩ : ∃ t, t = outS s := ⟨_, rfl⟩
        rw [← htt] at HA1 hol ⊢
        obtain ⟨z, hz⟩ : ∃ z, z = okS s := ⟨_, rfl⟩
        rw [← hz] at HA1 ⊢
        clear HPC HBA HMA hm2 htt hz c0 c1 c2 c3 c4 c5 c6 c7
        cases z with
        | false =>
          have HR : Hid (printL l = ([], 2)) := by
            show _ = _
            rw [HPN.out, ← HA1.out]
            rfl
          go_wp2_with fail
          refine bodyPost_ret (v := .tuple #[.string ⟨#[]⟩, .int .i64 2]) (by simp [results, Tryz.results15, go_sem]) rfl ⟨HM2.out, ?_⟩
          rw [HR.out]
          rfl
        | true =>
          have HA2 : Hid (printN (l.drop (j + 1)) (o ++ (t ++ [10])) = printN l []) := HA1.out
          have hts : (str t).size = t.length := str_len t
          have ht2 : (str (t ++ [10])).size = t.length + 1 := by rw [str_len]; simp
          have E1 : Hid (str t ++ (⟨#[10]⟩ : ByteArray) = str (t ++ [10])) := str_cat t [10]
          have g4 : ¬ 9223372036854775807 < (str t).size + 1 := by omega
          have HW := hid (bld_str w2 bb o (str (t ++ [10])) HB2.out (by rw [ht2]; have := hO.out; omega))
          have HO2 : Hid ((o ++ (t ++ [10])).length ≤ (j + 1) * 6000020) := by show _ ≤ _; have := hO.out; simp only [List.length_append, List.length_cons, List.length_nil]; omega
          clear ht2 hO HA1
          go_wp2_with fail
          rw [E1.out]
          refine HW.out.mono ?_
          rintro e w3 ⟨rfl, hb3, hbel⟩
          have HB3 : Hid (Bld bb (o ++ (t ++ [10])) w3) := hb3
          have HM3 := hid (HM2.out.up hbel (by rw [← Hbb.out]; omega))
          clear hb3 hbel
          go_wp2
          go_roundg (gk - 1)
          case measure => omega
          case rel => exact ⟨j + 1, _, by go_num, by omega, HO2, HA2, HB3, HM3⟩
      · obtain rfl : j = l.length := by omega
        have HR : Hid (printL l = (o, 0)) := by
          show _ = _
          rw [HPN.out, ← hA.out, List.drop_length]
          rfl
        clear hA
        go_wp2_with fail
        refine (bld_out wr bb o hB.out).mono ?_
        rintro e w2 ⟨rfl, hb2, hbel⟩
        have HM2 := hid (hM.out.up hbel (by rw [← Hbb.out]; omega))
        clear hb2 hbel
        go_wp2_with fail
        refine bodyPost_ret (v := .tuple #[.string (str o), .int .i64 0]) (by simp [results, Tryz.results15, go_sem]) rfl ⟨HM2.out, ?_⟩
        rw [HR.out]
        rfl
end
end Go.Proofs.YtibhkldnimfnkaaGreatDoor
