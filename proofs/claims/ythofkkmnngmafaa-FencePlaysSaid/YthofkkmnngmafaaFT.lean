/- Remove of a fence: the walk. -/
import Derived.Test.YthofkkmnngmafaaFS
import Derived.Test.YthofkkmnngmafaaFJ
namespace Go.Proofs.Ythofkkmnngmafaa
set_option linter.unusedVariables false
set_option linter.unusedSimpArgs false
set_option linter.unusedSectionVars false
open Go.RowKit

def remAnsL (l : List Lf) (sep : ByteArray) : Nat := if sep ∈ sepsL l then 0 else 5
def remLL (l : List Lf) (sep : ByteArray) : List Lf := if sep ∈ sepsL l then without l sep else l
def remFF (f : Fc) (sep : ByteArray) : Fc := if sep ∈ f.seps then remF f sep else f
theorem seps_leaf {f : Fc} (hg : Good f) {sep : ByteArray} (h : sep ∈ f.seps) : sep ≠ mt ∧ ∃ p, (sep, p) ∈ f.lv := by
  obtain ⟨p, r, e⟩ := hg.head
  have hs := hg.srt
  unfold Fc.seps at h
  rw [e] at h hs ⊢
  obtain ⟨x, hx, rfl⟩ := List.mem_map.1 (show sep ∈ r.map (·.1) from h)
  refine ⟨fun e => ?_, x.2, by simp [hx]⟩
  have := (List.pairwise_cons.1 hs).1 x hx
  rw [e] at this
  exact SL_irrefl _ this
theorem without_len {l : List Lf} {sep : ByteArray} (hs : SrtL l) (h : ∃ p, (sep, p) ∈ l) : (without l sep).length + 1 = l.length := by
  obtain ⟨p, hp⟩ := h
  obtain ⟨A, B, rfl⟩ := List.append_of_mem hp
  obtain ⟨h1, h2, h3⟩ := List.pairwise_append.1 hs
  have hA : without A sep = A := without_all fun x hx e => by
    have := h3 x hx (sep, p) (by simp)
    rw [e] at this
    exact SL_irrefl _ this
  have hB : without B sep = B := without_all fun x hx e => by
    have := (List.pairwise_cons.1 h2).1 x hx
    rw [e] at this
    exact SL_irrefl _ this
  unfold without at hA hB ⊢
  rw [List.filter_append, List.filter_cons, if_neg (by simp), hA, hB]
  simp; omega

set_option maxRecDepth 100000 in
set_option maxHeartbeats 2000000 in
theorem fremove_c (w0 : World) (L0 : List Nat) (w : World) (fb : Nat) (f : Fc) (sep : ByteArray) (U : Res) [Keep U] (h : Hld w0 L0 (star (feR fb f) U) w) (hg : Good f) (hl : f.lv.length ≤ 60) :
    Calls Try.prog 11 #[.pointer (some ⟨fb, 0, none⟩), .string sep] w fun e w' => e = .returned (.int .i64 (remAnsL f.lv sep : Nat)) ∧ Hld w0 L0 (star (feR fb (remFF f sep)) U) w' := by
  have H := hid h
  have HG := hid hg
  have hn60 := hid hl
  obtain ⟨c, hC⟩ := h.feC
  have h := hC.as1
  have b0 := h.get.cell 0
  have hbl := h.get.lt
  obtain ⟨L1, hT⟩ := h.drop.res
  simp only [List.getElem?_toArray, List.getElem?_cons_zero] at b0
  obtain ⟨d, t⟩ := f
  cases d with
  | zero =>
    obtain ⟨hc, _⟩ := hT
    subst hc
    rw [show chV (.lf t) = .iface 58 (.int .u64 (t : Nat)) from rfl] at b0
    have q3 := ta_nl
    clear h hg hl
    go_enter Try.func11, Try.ntmps11
    go_wp2_with fail
    refine (seps_c w0 L0 _ fb _ U H.out HG.out (by have := hn60.out; omega)).mono ?_
    rintro e w1 ⟨v, rfl, H1⟩
    have hno : sep ∉ sepsL (⟨0, t⟩ : Fc).lv := by show sep ∉ ([] : List ByteArray); simp
    have hans : remAnsL (⟨0, t⟩ : Fc).lv sep = 5 ∧ remFF ⟨0, t⟩ sep = ⟨0, t⟩ := ⟨if_neg hno, if_neg hno⟩
    obtain ⟨L1, hL1⟩ := H1.res
    have hX : Lx 1 stC w1 v (⟨0, t⟩ : Fc).seps := by
      rw [show (⟨0, t⟩ : Fc).lv.length - 1 = (⟨0, t⟩ : Fc).seps.length from rfl] at hL1
      exact Seg.lx st_lays hL1 (by show 0 ≤ 9223372036854775807; omega)
    have hbs := hid (bs_c w1 v (⟨0, t⟩ : Fc).seps sep hX HG.out.seps (by show 0 ≤ 1000000; omega))
    have Hans := hid hans
    have H1 := hid H1
    clear hX hL1 hno hans
    go_wp2_with fail
    refine hbs.out.mono ?_
    rintro e w2 ⟨i, q, rfl, hi, hq, hm⟩
    have hqf : q = false := by
      cases q
      · rfl
      · have := hq.1 rfl
        cases this
    subst hqf
    have H2 := hid (H1.out.drop.mod hm)
    clear hbs hi hq hm H1
    go_wp2
    go_ret
    exact ⟨by rw [Hans.out.1]; rfl, by rw [Hans.out.2]; exact H2.out⟩
  | succ d =>
    obtain ⟨b, cs, hc, _⟩ := hT
    subst hc
    rw [show chV (.nd b) = .iface 65 (.pointer (some ⟨b, 0, none⟩)) from rfl] at b0
    have q3 := ta_nn
    have HC := hid hC
    clear h hg hl hC H
    go_enter Try.func11, Try.ntmps11
    go_wp2_with fail
    refine (seps_cc w0 L0 _ fb _ _ U HC.out HG.out (by have := hn60.out; omega)).mono ?_
    rintro e w1 ⟨v, rfl, H1⟩
    obtain ⟨L1, hL1⟩ := H1.res
    have hX : Lx 1 stC w1 v (⟨d + 1, t⟩ : Fc).seps := by
      rw [show (⟨d + 1, t⟩ : Fc).lv.length - 1 = (⟨d + 1, t⟩ : Fc).seps.length by simp] at hL1
      have hz : (⟨d + 1, t⟩ : Fc).seps.length = (⟨d + 1, t⟩ : Fc).lv.length - 1 := by simp
      exact Seg.lx st_lays hL1 (by have := hn60.out; omega)
    have hbs := hid (bs_c w1 v (⟨d + 1, t⟩ : Fc).seps sep hX HG.out.seps (by have := hn60.out; simp; omega))
    have H1 := hid H1
    clear hX hL1
    go_wp2_with fail
    refine hbs.out.mono ?_
    rintro e w2 ⟨i, q, rfl, hi, hq, hm⟩
    have hqd := hid (sb_mem HG.out.seps hi hq)
    have H2 := hid (H1.out.drop.mod hm)
    clear hbs hi hq hm H1
    by_cases hmem : sep ∈ (⟨d + 1, t⟩ : Fc).seps
    · rw [decide_eq_true hmem] at hqd
      have e1 := hqd.out
      subst e1
      have hans : remAnsL (⟨d + 1, t⟩ : Fc).lv sep = 0 ∧ remFF ⟨d + 1, t⟩ sep = remF ⟨d + 1, t⟩ sep := ⟨if_pos hmem, if_pos hmem⟩
      have hsl := seps_leaf HG.out hmem
      have hlen : (remF ⟨d + 1, t⟩ sep).lv.length + 1 = (⟨d + 1, t⟩ : Fc).lv.length := by
        rw [(remF_ok HG.out hsl.1 hsl.2).1]
        exact without_len HG.out.srt hsl.2
      have HH := hid (⟨hans.1, hans.2, hlen, hsl.2⟩ : _ ∧ _ ∧ _ ∧ _)
      obtain ⟨b', cs, e, hcl, HO⟩ := (H2.out.as1.swap).tr_open
      cases e
      have HO2 := hid HO.as2
      have hfan := remT_ok d t mt sep HG.out.fan HG.out.srt hsl.2
      have HF := hid hfan
      clear hqd hans hsl hlen hmem HO hfan H2 hcl
      go_wp2_with fail
      refine (HO2.out.call (fun L hL => remove_c d t b cs w2 L mt sep hL HG.out.fan HG.out.srt (SL_mt sep) HH.out.2.2.2)).mono ?_
      rintro e w3 ⟨r, rfl, H3⟩
      obtain ⟨hr1, H4⟩ := H3.fact
      subst hr1
      have hrm : Hid (remF ⟨d + 1, t⟩ sep = match (remT d t sep).1.1 with
        | [x] => ⟨d, x⟩
        | _ => ⟨d + 1, (remT d t sep).1⟩) := by show _ = _; rfl
      have hl0 : Hid (1 ≤ (⟨d + 1, t⟩ : Fc).lv.length) := by show _ ≤ _; have := HH.out.2.2.1; omega
      obtain ⟨t', ht'⟩ : ∃ t', t' = (remT d t sep).1 := ⟨_, rfl⟩
      have hF1 := HF.out.2.1
      rw [← ht'] at hrm H4 hF1
      obtain ⟨b', cs', e, hcl, HO⟩ := H4.tr_open
      cases e
      have HB := hid (HO.ent (ent_pull3 _ _ _ _))
      have b0 := HB.out.get.cell 0
      have b1 := HB.out.get.cell 1
      have f0 := HB.out.get.free 0
      have f1 := HB.out.get.free 1
      have hbl := HB.out.get.lt
      simp only [List.getElem?_toArray, List.getElem?_cons_zero, List.getElem?_cons_succ] at b0 b1
      obtain ⟨Ln, hn⟩ := HO.res
      obtain ⟨hk1, hk5, hk3, _⟩ := hF1
      obtain ⟨c0, hc0⟩ : ∃ c0, cs'[0]? = some c0 := ⟨_, List.getElem?_eq_getElem (by omega)⟩
      obtain ⟨g, cap, n0, n00⟩ := hn.kid hc0
      have hnl := hn.lt
      have hle : ((⟨d + 1, t⟩ : Fc).lv.length : Int) ≤ 60 := by have := hn60.out; omega
      have hge : (1 : Int) ≤ ((⟨d + 1, t⟩ : Fc).lv.length : Int) := by have := hl0.out; omega
      clear HO H4 H3 HO2 HC hn hl0 ht'
      by_cases hk : cs'.length = 1
      · obtain rfl : cs' = [c0] := by
          cases cs' with
          | nil => cases hc0
          | cons a l =>
            cases l with
            | nil => simp at hc0; rw [hc0]
            | cons => simp at hk
        obtain ⟨ks, ss⟩ := t'
        cases ks with
        | nil => simp at hk1
        | cons x ks =>
          cases ks with
          | cons => simp at hcl
          | nil =>
            clear hk hcl hc0 hk1 hk5 hk3
            obtain ⟨ty, vv, hcv⟩ := chV_iface c0
            rw [hcv] at n00
            go_wp2_with fail
            go_ret
            rw [HH.out.2.1]
            refine ⟨by rw [HH.out.1]; rfl, ?_⟩
            have hl1 := HH.out.2.2.1
            rw [hrm.out] at hl1 ⊢
            have el : (((⟨d, x⟩ : Fc).lv.length : Nat) : Int) = ((⟨d + 1, t⟩ : Fc).lv.length : Int) - 1 := by
              have : (⟨d, x⟩ : Fc).lv.length + 1 = (⟨d + 1, t⟩ : Fc).lv.length := hl1
              omega
            have hF := (HB.out.set 0 (.iface ty vv)).set 1 (.int .i64 (((⟨d + 1, t⟩ : Fc).lv.length : Int) - 1))
            rw [← hcv] at hF
            simp only [List.setIfInBounds_toArray, List.set_cons_succ, List.set_cons_zero] at hF
            have hG := hF.ent (((ent_drop _ _).trans (Ent.left (ent_emp1 _) U)).under _)
            rw [← hcv]
            exact hG.as2.ent (Ent.left (S' := feR fb ⟨d, x⟩) (fun w L h => ⟨L, ⟨c0, by rw [el]; exact h⟩, fun _ h => h⟩) U)
      · have hk2 : ¬ ((cs'.length : Int) == 1) = true := by simp; omega
        clear hc0
        go_wp2_with fail
        go_ret
        rw [HH.out.2.1]
        refine ⟨by rw [HH.out.1]; rfl, ?_⟩
        have hl1 := HH.out.2.2.1
        have hr2 : remF ⟨d + 1, t⟩ sep = ⟨d + 1, t'⟩ := by
          rw [hrm.out]
          obtain ⟨ks, ss⟩ := t'
          cases ks with
          | nil => rfl
          | cons x ks =>
            cases ks with
            | nil => exact absurd (by simpa using hcl) hk
            | cons => rfl
        rw [hr2] at hl1 ⊢
        have el : (((⟨d + 1, t'⟩ : Fc).lv.length : Nat) : Int) = ((⟨d + 1, t⟩ : Fc).lv.length : Int) - 1 := by
          have : (⟨d + 1, t'⟩ : Fc).lv.length + 1 = (⟨d + 1, t⟩ : Fc).lv.length := hl1
          omega
        have hF := HB.out.set 1 (.int .i64 (((⟨d + 1, t⟩ : Fc).lv.length : Int) - 1))
        simp only [List.setIfInBounds_toArray, List.set_cons_succ, List.set_cons_zero] at hF
        have hG := hF.ent ((ent_tr t' b cs' t'.1 t'.2 rfl U).under _)
        exact hG.as2.ent (Ent.left (S' := feR fb ⟨d + 1, t'⟩) (fun w L h => ⟨L, ⟨.nd b, by rw [el]; exact h⟩, fun _ h => h⟩) U)
    · rw [decide_eq_false hmem] at hqd
      have e1 := hqd.out
      subst e1
      have hans : remAnsL (⟨d + 1, t⟩ : Fc).lv sep = 5 ∧ remFF ⟨d + 1, t⟩ sep = ⟨d + 1, t⟩ := ⟨if_neg hmem, if_neg hmem⟩
      have Hans := hid hans
      clear hqd hans hmem
      go_wp2
      go_ret
      exact ⟨by rw [Hans.out.1]; rfl, by rw [Hans.out.2]; exact H2.out.ent (ent_feC _ _ _ _)⟩
end Go.Proofs.Ythofkkmnngmafaa
