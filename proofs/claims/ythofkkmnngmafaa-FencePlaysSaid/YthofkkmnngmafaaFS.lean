/- Insert of a fence: the walk. -/
import Derived.Test.YthofkkmnngmafaaFR
import Derived.Test.YthofkkmnngmafaaFW
namespace Go.Proofs.Ythofkkmnngmafaa
set_option linter.unusedVariables false
set_option linter.unusedSimpArgs false
set_option linter.unusedSectionVars false
open Go.RowKit

abbrev Fc.seps (f : Fc) : List ByteArray := sepsL f.lv
abbrev Fc.pids (f : Fc) : List Nat := pidsL f.lv
theorem Good.seps {f : Fc} (h : Good f) : SrtS f.seps := by
  have h1 : List.Pairwise (fun a b => SL a b) (f.lv.map (·.1)) := List.pairwise_map.2 h.srt
  exact h1.drop
theorem sb_mem {l : List ByteArray} {k : ByteArray} {i : Nat} {q : Bool} (hs : SrtS l) (h : IsSb l k i) (hq : q = true ↔ l[i]? = some k) : q = decide (k ∈ l) := by
  have key : q = true ↔ k ∈ l := by
    rw [hq]
    constructor
    · exact List.mem_of_getElem?
    · intro hk
      obtain ⟨j, hj⟩ := List.mem_iff_getElem?.1 hk
      rcases Nat.lt_trichotomy j i with h1 | h1 | h1
      · exact absurd (h.2.1 j k h1 hj) (SL_irrefl k)
      · rw [← h1]; exact hj
      · obtain ⟨h3, e3⟩ := List.getElem?_eq_some_iff.1 hj
        have h2 : i < l.length := by omega
        have := List.pairwise_iff_getElem.1 hs i j h2 h3 h1
        rw [e3] at this
        exact absurd this (h.2.2 i _ (Nat.le_refl _) (List.getElem?_eq_getElem h2))
  cases q
  · exact (decide_eq_false (fun h => by simpa using key.2 h)).symm
  · exact (decide_eq_true (key.1 rfl)).symm
def insFF (f : Fc) (sep : ByteArray) (pid : Nat) : Fc := if insAnsL f.lv sep pid = 0 then insF f sep pid else f
theorem insF_of {f : Fc} {sep : ByteArray} {pid : Nat} {t' : Tr f.d} {o : Option (Tr f.d × ByteArray)} (h : insT f.d f.t sep pid = (t', o)) : insF f sep pid = match (t', o) with
    | (t, none) => ⟨f.d, t⟩
    | (t, some (m, b)) => ⟨f.d + 1, ([t, m], [b])⟩ := by
  unfold insF
  rw [h]
  cases o with
  | none => rfl
  | some mb => rfl
theorem ent_row {E : TypeId} {g n : Nat} {l : List Value} (hn : l.length = n) (hm : n ≤ 9223372036854775807) : Ent (boxR g l.toArray E) (rowR E 1 (.slice (some ⟨g, 0, none⟩) n n) n l) := by
  rintro w L ⟨h, rfl⟩
  exact ⟨[g], ⟨by omega, Or.inr ⟨g, n, l.toArray, rfl, rfl, h, Nat.le_refl _, by simp [maxLen]; omega, by simp [hn], by simp only [Nat.mul_one]; exact List.take_of_length_le (by omega)⟩⟩, fun _ h => h⟩
/-- A root above two trees. -/
theorem ent_above {d : Nat} (t m : Tr d) (c cm : Ch) (b : ByteArray) (nb sb kb : Nat) (U : Res) :
    Ent (star (boxR nb #[.slice (some ⟨kb, 0, none⟩) 2 2, .slice (some ⟨sb, 0, none⟩) 1 1] 72) (star (boxR sb #[.string b] 9) (star (boxR kb #[chV c, chV cm] 60) (star (star (trR d t c) (trR d m cm)) U)))) (star (trR (d + 1) ([t, m], [b]) (.nd nb)) U) := by
  refine ((ent_swap _ _ _).under _).trans ?_
  refine ((Ent.left (ent_row (l := [chV c, chV cm]) rfl (by simp)) _).under _).trans ?_
  refine (((Ent.left (ent_row (l := [.string b]) rfl (by simp)) _).under _).under _).trans ?_
  refine (ent_nd nb [c, cm] [b] _ _ 2 1 rfl rfl _).trans ?_
  refine (((Ent.left ?_ U)).under _).trans (ent_tr ([t, m], [b]) nb [c, cm] [t, m] [b] rfl U)
  exact (ent_emp2 _).trans (ent_assoc1 _ _ _)

set_option maxRecDepth 100000 in
set_option maxHeartbeats 2000000 in
theorem finsert_c (w0 : World) (L0 : List Nat) (w : World) (fb : Nat) (f : Fc) (sep : ByteArray) (pid : Nat) (U : Res) [Keep U] (h : Hld w0 L0 (star (feR fb f) U) w) (hg : Good f) (hl : f.lv.length ≤ 60) (hs : sep.size ≤ 9223372036854775807) :
    Calls Try.prog 12 #[.pointer (some ⟨fb, 0, none⟩), .string sep, .int .u64 (pid : Nat)] w fun e w' => e = .returned (.int .i64 (insAnsL f.lv sep pid : Nat)) ∧ Hld w0 L0 (star (feR fb (insFF f sep pid)) U) w' := by
  have H := hid h
  have HG := hid hg
  have hn60 := hid hl
  clear h hg hl
  go_enter Try.func12, Try.ntmps12
  go_wp2_with fail
  refine (seps_c w0 L0 _ fb f U H.out HG.out (by have := hn60.out; omega)).mono ?_
  rintro e w1 ⟨v, rfl, H1⟩
  have H1 := hid H1
  obtain ⟨L1, hL1⟩ := H1.out.res
  have hsl : f.lv.length - 1 = f.seps.length := by simp
  have hX : Lx 1 stC w1 v f.seps := by
    rw [hsl] at hL1
    exact Seg.lx st_lays hL1 (by have := hn60.out; omega)
  have hbs := hid (bs_c w1 v f.seps sep hX HG.out.seps (by have := hn60.out; omega))
  clear hX hL1 hsl
  go_wp2_with fail
  refine hbs.out.mono ?_
  rintro e w2 ⟨i, q, rfl, hi, hq, hm⟩
  have hqd := hid (sb_mem HG.out.seps hi hq)
  have H2 := hid (H1.out.drop.mod hm)
  clear hbs hi hq hm H1
  have hbad : insBadL f.lv sep pid = true → insAnsL f.lv sep pid = 2 ∧ insFF f sep pid = f := by
    intro h
    have : insAnsL f.lv sep pid = 2 := by unfold insAnsL; rw [if_pos h]
    exact ⟨this, by unfold insFF; rw [this]; rfl⟩
  have Hbad := hid hbad
  clear hbad
  go_wp2_with fail
  · rename_i h1
    have hb : insBadL f.lv sep pid = true := by
      have : sep = mt := ba_ext (by rw [← ByteArray.toList_eq, h1]; rfl)
      simp [insBadL, this]
    have h2 := Hbad.out hb
    go_ret
    exact ⟨by rw [h2.1]; rfl, by rw [h2.2]; exact H2.out⟩
  · rename_i h1 h2 h3
    have hb : insBadL f.lv sep pid = true := by
      have : decide (sep ∈ sepsL f.lv) = true := hqd.out.symm.trans h3
      simp only [insBadL, this, Bool.or_true, Bool.true_or]
    have h2 := Hbad.out hb
    go_ret
    exact ⟨by rw [h2.1]; rfl, by rw [h2.2]; exact H2.out⟩
  · rename_i h1 h2 h3 h4
    have hb : insBadL f.lv sep pid = true := by
      have : decide (pid = 0) = true := decide_eq_true h4
      simp only [insBadL, this, Bool.or_true, Bool.true_or]
    have h2 := Hbad.out hb
    go_ret
    exact ⟨by rw [h2.1]; rfl, by rw [h2.2]; exact H2.out⟩
  · rename_i h1 h2 h3 h4 _ _
    have hne : sep ≠ mt := fun e => h1 (by rw [e, ByteArray.toList_eq]; rfl)
    have hnin : sep ∉ sepsL f.lv := fun h => h3 (by rw [hqd.out]; exact decide_eq_true h)
    have Hc := hid (⟨hne, by omega, hnin, h4⟩ : sep ≠ mt ∧ sep.size ≤ 16 ∧ sep ∉ sepsL f.lv ∧ pid ≠ 0)
    clear h3 hne hnin
    refine (pids_c w0 L0 w2 fb f U H2.out HG.out (by have := hn60.out; omega)).mono ?_
    rintro e w3 ⟨v3, rfl, H3⟩
    have H3 := hid H3
    obtain ⟨L3, hL3⟩ := H3.out.res
    have hX3 : Lx 1 idC w3 v3 f.pids := Own.lx id_lays (by rw [show f.pids.length = f.lv.length from List.length_map _]; exact hL3)
    have hct := hid (contains_c w3 v3 f.pids pid hX3 (by have := hn60.out; simp; omega))
    have H4 := hid H3.out.drop
    clear H2 H3 hL3 hX3
    by_cases hin : pid ∈ f.pids
    · rw [decide_eq_true hin] at hct
      have hb : insBadL f.lv sep pid = true := by
        have : decide (pid ∈ pidsL f.lv) = true := decide_eq_true hin
        simp only [insBadL, this, Bool.or_true]
      have hq2 := hid (Hbad.out hb)
      clear hb hin Hbad
      go_wp2_with fail
      refine hct.out.mono ?_
      rintro e w4 ⟨rfl, rfl⟩
      go_wp2
      go_ret
      exact ⟨by rw [hq2.out.1]; rfl, by rw [hq2.out.2]; exact H4.out⟩
    · rw [decide_eq_false hin] at hct
      have Hin := hid hin
      clear hin
      go_wp2_with fail
      refine hct.out.mono ?_
      rintro e w4 ⟨rfl, rfl⟩
      obtain ⟨c, h⟩ := H4.out.ex
      have h := h.as1
      have b0 := h.get.cell 0
      have b1 := h.get.cell 1
      have f0 := h.get.free 0
      have f1 := h.get.free 1
      have hbl := h.get.lt
      simp only [List.getElem?_toArray, List.getElem?_cons_zero, List.getElem?_cons_succ] at b0 b1
      have H5 := hid h
      clear h
      have he : sep.toList.isEmpty = false := by simpa using h1
      have hp : ((pid : Int) == 0) = false := beq_eq_false_iff_ne.2 (by omega)
      by_cases h60 : 60 ≤ f.lv.length
      · have hans : insAnsL f.lv sep pid = 11 := by
          unfold insAnsL
          rw [if_neg, if_pos h60]
          simp only [insBadL, Bool.or_eq_true, decide_eq_true_eq, not_or]
          exact ⟨⟨⟨⟨Hc.out.1, by have := Hc.out.2.1; omega⟩, Hc.out.2.2.1⟩, Hc.out.2.2.2⟩, Hin.out⟩
        have hsame : insFF f sep pid = f := by unfold insFF; rw [hans]; rfl
        have hq2 := hid (And.intro hans hsame)
        clear hans hsame
        have h60' : (60 : Int) ≤ (f.lv.length : Int) := by omega
        clear h60
        go_wp2
        go_ret
        exact ⟨by rw [hq2.out.1]; rfl, by rw [hq2.out.2]; exact H4.out⟩
      · have hans : insAnsL f.lv sep pid = 0 := insAnsL_zero.2 ⟨Hc.out.1, Hc.out.2.1, Hc.out.2.2.1, Hc.out.2.2.2, Hin.out, by omega⟩
        have hsame : insFF f sep pid = insF f sep pid := by unfold insFF; rw [hans]; rfl
        have hnew : ∀ x ∈ f.lv, x.1 ≠ sep := by
          intro x hx e
          obtain ⟨p, r, er⟩ := HG.out.head
          have hx' := hx
          have hn := Hc.out.2.2.1
          rw [er] at hx' hn
          rcases List.mem_cons.1 hx' with rfl | hx'
          · exact Hc.out.1 e.symm
          · exact hn (show sep ∈ r.map (·.1) from List.mem_map.2 ⟨x, hx', e⟩)
        have hlen : (insF f sep pid).lv.length = f.lv.length + 1 := by
          rw [(insF_ok HG.out pid Hc.out.1 hnew).1, (putL_perm hnew).length_eq, List.length_cons]
        have hq2 := hid (⟨hans, hsame, hlen⟩ : _ ∧ _ ∧ _)
        have h60' : (f.lv.length : Int) < 60 := by omega
        clear h60 hans hsame hnew hlen
        go_wp2_with fail
        refine (H5.out.swap.call (fun L hL => insert_c f.d f.t c w3 L mt sep pid hL HG.out.fan HG.out.srt (SL_mt sep))).mono ?_
        rintro e w5 ⟨r, rfl, HH⟩
        have H6 := HH.swap
        have b0 := H6.get.cell 0
        have b1 := H6.get.cell 1
        have f0 := H6.get.free 0
        have f1 := H6.get.free 1
        have hbl := H6.get.lt
        simp only [List.getElem?_toArray, List.getElem?_cons_zero, List.getElem?_cons_succ] at b0 b1
        obtain ⟨d, t⟩ := f
        have HH := hid HH
        clear H6
        rcases hr : insT d t sep pid with ⟨t', o⟩
        have hI2 := hid (insF_of (f := ⟨d, t⟩) hr)
        have HJ : Hid (Hld w0 L0 (star (InsG d (t', o) c r) (star (boxR fb #[chV c, .int .i64 ((lv d t mt).length : Nat)] 62) U)) w5) := by rw [← hr]; exact HH.out
        clear HH hr
        cases o with
        | none =>
          obtain ⟨hr1, HK⟩ := HJ.out.fact
          subst hr1
          have HKK := hid HK.swap
          clear HJ
          go_wp2_with fail
          go_ret
          rw [hq2.out.2.1]
          have hF := HKK.out.set 1 (.int .i64 (((lv d t mt).length : Int) + 1))
          refine ⟨by rw [hq2.out.1]; rfl, ?_⟩
          have hl1 := hq2.out.2.2
          rw [hI2.out] at hl1 ⊢
          have el : (((⟨d, t'⟩ : Fc).lv.length : Nat) : Int) = ((lv d t mt).length : Int) + 1 := by
            have : (⟨d, t'⟩ : Fc).lv.length = (lv d t mt).length + 1 := hl1
            omega
          exact hF.as2.ent (Ent.left (fun w L h => ⟨L, ⟨c, by rw [el]; exact h⟩, fun _ h => h⟩) U)
        | some mb =>
          obtain ⟨m, b⟩ := mb
          obtain ⟨cm, HK⟩ := HJ.out.ex
          obtain ⟨hr1, HK2⟩ := HK.fact
          subst hr1
          have HKK := hid HK2.swap
          obtain ⟨ty, vv, hcv⟩ := chV_iface cm
          obtain ⟨ty0, vv0, hcv0⟩ := chV_iface c
          have HA0 := (((HKK.out.box #[chV c, chV cm] 60).box #[.string b] 9).box #[.slice (some ⟨w5.heap.size, 0, none⟩) 2 2, .slice (some ⟨w5.heap.size + 1, 0, none⟩) 1 1] 72)
          have ea : ∀ (w : World) (o : Obj), (w.alloc o).heap.size = w.heap.size + 1 := fun w o => by simp
          simp only [ea] at HA0
          have HA := hid HA0
          clear HA0 ea
          have HB := hid (HA.out.ent (ent_pull4 _ _ _ _ _))
          have q0 := HB.out.get.cell 0
          have q1 := HB.out.get.cell 1
          have g0 := HB.out.get.free 0
          have g1 := HB.out.get.free 1
          simp only [List.getElem?_toArray, List.getElem?_cons_zero, List.getElem?_cons_succ] at q0 q1
          rw [hcv0] at b0
          rw [hcv, hcv0] at q0 q1 g0 g1
          have hl60 : ((lv d t mt).length : Int) < 60 := h60'
          clear HJ HK HK2
          go_wp2_with fail
          go_ret
          rw [hq2.out.2.1]
          refine ⟨by rw [hq2.out.1]; rfl, ?_⟩
          have hl1 := hq2.out.2.2
          rw [hI2.out] at hl1 ⊢
          have el : (((⟨d + 1, ([t', m], [b])⟩ : Fc).lv.length : Nat) : Int) = ((lv d t mt).length : Int) + 1 := by
            have : (⟨d + 1, ([t', m], [b])⟩ : Fc).lv.length = (lv d t mt).length + 1 := hl1
            omega
          have hF := (HB.out.set 0 (.iface 65 (.pointer (some ⟨w5.heap.size + 2, 0, none⟩)))).set 1 (.int .i64 (((lv d t mt).length : Int) + 1))
          have hG := hF.ent ((ent_above t' m c cm b _ _ _ U).under _)
          rw [hcv, hcv0] at hG
          simp only [List.setIfInBounds_toArray, List.set_cons_succ, List.set_cons_zero] at hG
          have hE := hG.as2.ent (Ent.left (S' := feR fb ⟨d + 1, ([t', m], [b])⟩) (fun w L h => ⟨L, ⟨.nd (w5.heap.size + 2), by rw [el]; simpa [chV] using h⟩, fun _ h => h⟩) U)
          exact hE
  · rename_i h1 h2
    have hb : insBadL f.lv sep pid = true := by
      have : decide (16 < sep.size) = true := decide_eq_true (by omega)
      simp only [insBadL, this, Bool.or_true, Bool.true_or]
    have h2 := Hbad.out hb
    go_ret
    exact ⟨by rw [h2.1]; rfl, by rw [h2.2]; exact H2.out⟩
end Go.Proofs.Ythofkkmnngmafaa
