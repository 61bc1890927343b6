/- A fence as bytes: the walk of Image. -/
import Derived.Test.YthofkkmnngmafaaFS
namespace Go.Proofs.Ythofkkmnngmafaa
set_option linter.unusedVariables false
set_option linter.unusedSimpArgs false
set_option linter.unusedSectionVars false
open Go.RowKit

/-- What the closure has put so far. -/
def imgR (x n : Nat) (acc : List Lf) : Res := fun w L => (∀ y ∈ acc, smallL y) ∧ boxR x #[.string (imgA n acc)] 9 w L
theorem enterB (args : Array Value) (w : World) : (callFunc 50 args).run Try.prog w = .ok (.enter 50 args) w := by rfl
set_option maxRecDepth 100000 in
set_option maxHeartbeats 1000000 in
theorem seeB (x n : Nat) (hn : n < 18446744073709551616) : SeeOk 50 #[.pointer (some ⟨x, 0, none⟩)] (imgR x n) 1000 smallL := by
  intro acc s p W L hN hq h
  obtain ⟨hsm, hb, rfl⟩ := h
  have hz := imgA_size hn hsm
  have b0 := hb.cell 0
  have f0 := hb.free 0
  have hbl := hb.lt
  simp only [List.getElem?_toArray, List.getElem?_cons_zero] at b0
  have HB := hid hb
  have Hq := hid hq
  have Hsm : Hid (∀ y ∈ acc ++ [(s, p)], smallL y) := by
    intro y hy
    rcases List.mem_append.1 hy with hy | hy
    · exact hsm y hy
    · simp at hy; subst hy; exact hq
  have hss : s.size ≤ 16 := hq.1
  have hpp : p < 18446744073709551616 := hq.2.2
  have hzz : (imgA n acc).size ≤ 50000 := by omega
  obtain ⟨u, hu⟩ : ∃ u, u = imgA n acc := ⟨_, rfl⟩
  have hfin := hid (imgA_snoc n acc (s, p))
  rw [← hu] at b0 hzz hfin
  clear hb hq hsm hz hu
  by_cases hs0 : s = mt
  · subst hs0
    have hfin : Hid (imgA n (acc ++ [(mt, p)]) = u ++ numB p) := by
      show _ = _
      rw [hfin.out]; unfold putB; rw [if_pos rfl]
    have hme : mt.toList.isEmpty = true := (isEmpty_iff mt).2 rfl
    go_enter Try.func50, Try.ntmps50
    go_wp2_with fail
    refine (put_c u p W (by omega) hpp).mono ?_
    rintro e w1 ⟨rfl, hm⟩
    have hB1 := hm.blk HB.out (by simp)
    have b1 := hB1.cell 0
    have f1 := hB1.free 0
    have hbl1 := hB1.lt
    simp only [List.getElem?_toArray, List.getElem?_cons_zero] at b1
    have hB1 := hid hB1
    go_wp2
    refine bodyPost_end (results_none rfl _ _ _) rfl ⟨_, rfl, [x], ⟨rfl, Hsm.out, ?_, rfl⟩, (hm.mono (by simp)).setCell (by simp) _, by simp⟩
    rw [hfin.out]
    exact hB1.out.set 0 _
  · have hne : s.toList.isEmpty = false := by
      cases h : s.toList.isEmpty
      · rfl
      · exact absurd (ba_ext (by rw [(isEmpty_iff s).1 h]; rfl)) hs0
    have hfin : Hid (imgA n (acc ++ [(s, p)]) = u ++ textB s ++ numB p) := by
      show _ = _
      rw [hfin.out]; unfold putB; rw [if_neg hs0]
    have htz := textB_size s hss
    clear hs0
    go_enter Try.func50, Try.ntmps50
    go_wp2_with fail
    refine (putText_c u s W (by omega) (by omega)).mono ?_
    rintro e w1 ⟨rfl, hm⟩
    have hB1 := hm.blk HB.out (by simp)
    have b1 := hB1.cell 0
    have f1 := hB1.free 0
    have hbl1 := hB1.lt
    simp only [List.getElem?_toArray, List.getElem?_cons_zero] at b1
    have hB1 := hid (hB1.set 0 (.string (u ++ textB s)))
    have hm1 := hid hm
    have hz2 : (u ++ textB s).size ≤ 60000 := by rw [ByteArray.size_append]; omega
    clear hm b0 f0 hbl
    go_wp2_with fail
    refine (put_c (u ++ textB s) p _ (by omega) hpp).mono ?_
    rintro e w2 ⟨rfl, hm⟩
    have hB2 := hm.blk hB1.out (by simp)
    have b2 := hB2.cell 0
    have f2 := hB2.free 0
    have hbl2 := hB2.lt
    simp only [List.setIfInBounds_toArray, List.set_cons_zero, List.getElem?_toArray, List.getElem?_cons_zero] at b2
    have hB2 := hid hB2
    go_wp2
    refine bodyPost_end (results_none rfl _ _ _) rfl ⟨_, rfl, [x], ⟨rfl, Hsm.out, ?_, rfl⟩, (((hm1.out.mono (by simp)).setCell (by simp) _).tr (hm.mono (by simp))).setCell (by simp) _, by simp⟩
    rw [hfin.out]
    exact hB2.out.set 0 _

theorem ent_imgR (x n : Nat) : Ent (boxR x #[.string (numB n)] 9) (imgR x n []) := fun w L h => ⟨L, ⟨by simp, h⟩, fun _ h => h⟩
set_option maxRecDepth 100000 in
set_option maxHeartbeats 1000000 in
theorem fimage_c (w0 : World) (L0 : List Nat) (w : World) (fb : Nat) (f : Fc) (U : Res) [Keep U] (h : Hld w0 L0 (star (feR fb f) U) w) (hg : Good f) (hok : OkL f.lv) :
    Calls Try.prog 21 #[.pointer (some ⟨fb, 0, none⟩)] w fun e w' => e = .returned (.string (imgB f.lv)) ∧ Hld w0 L0 (star (feR fb f) U) w' := by
  have hl := hok.len
  have Hsm := hid hok.small
  have HG := hid hg.fan
  obtain ⟨c, hC⟩ := h.feC
  have h := hC.as1
  have b0 := h.get.cell 0
  have b1 := h.get.cell 1
  have hbl := h.get.lt
  simp only [List.getElem?_toArray, List.getElem?_cons_zero, List.getElem?_cons_succ] at b0 b1
  have HC := hid hC
  have hl2 : ((f.lv.length : Nat) : Int) ≤ 60 := by omega
  have hw : IntKind.u64.wrap ((f.lv.length : Nat) : Int) = ((f.lv.length : Nat) : Int) := by rw [IntKind.wrap_u64]; omega
  clear h hg hC hok
  go_enter Try.func21, Try.ntmps21
  go_wp2_with fail
  refine (put_c ⟨#[]⟩ f.lv.length w (by decide) (by omega)).mono ?_
  rintro e w1 ⟨rfl, hm⟩
  rw [show (⟨#[]⟩ : ByteArray) ++ numB f.lv.length = numB f.lv.length from mt_ba _]
  have H1 := HC.out.mod hm
  have b0 := H1.as1.get.cell 0
  have hbl := H1.as1.get.lt
  simp only [List.getElem?_toArray, List.getElem?_cons_zero, List.getElem?_cons_succ] at b0
  have HB := hid (H1.box #[.string (numB f.lv.length)] 9)
  have HD := hid ((HB.out.ent (Ent.left (ent_imgR w1.heap.size f.lv.length) _)).ent (((ent_assoc1 _ _ _).trans (ent_swap _ _ _)).under _))
  clear HC H1 HB hm
  go_wp2_with fail
  refine (each_c _ _ (imgR w1.heap.size f.lv.length) 1000 smallL enterB (seeB w1.heap.size f.lv.length (by omega)) f.d f.t c w0 L0 _ mt [] _ HD.out HG.out (by show 0 + f.lv.length ≤ 1000; omega) Hsm.out).mono ?_
  rintro e w2 ⟨rfl, HR⟩
  obtain ⟨_, HS⟩ := HR.fact
  have c0 := HS.get.cell 0
  have hcl := HS.get.lt
  simp only [List.getElem?_toArray, List.getElem?_cons_zero] at c0
  have HS2 := hid (HS.drop.ent (ent_feR fb f c U))
  clear HR HS HD
  go_wp2
  go_ret
  exact ⟨rfl, HS2.out⟩
end Go.Proofs.Ythofkkmnngmafaa
