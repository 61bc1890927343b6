/- What is done to both: End. -/
import Derived.Test.YtocfeeecgpklnaaTXZ
namespace Go.Proofs.Ytocfeeecgpklnaa
set_option linter.unusedVariables false
set_option linter.unusedSimpArgs false
set_option linter.unusedSectionVars false
open Go.RowKit Go.Shelf

section
variable (w0 w : World) (b b' : Nat) (t : Tx) (xw : Int) (xc : Cl) (xn : Nat) (xr : Rc) (xv : ByteArray) (now : Nat) (U : Res) [Keep U]
set_option maxRecDepth 100000 in
set_option maxHeartbeats 1000000 in
theorem do_end (h : Top w0 (star (txR b t) (star (rxR b' t) U)) w) (hw : ¬ (0 ≤ xw ∧ xw ≤ 10)) :
    Calls Try.prog 23 #[.pointer (some ⟨b, 0, none⟩), .pointer (some ⟨b', 0, none⟩), acV ⟨xw, xc, xn, xr, xv⟩, .int .u64 now] w fun e w' => e = .returned (.bool true) ∧ Top w0 (star (txR b (endT t ((xn % 20 : Nat) : Int))) (star (rxR b' (endT t ((xn % 20 : Nat) : Int))) U)) w' := by
  have e0 : (xw == 0) = false := beq_eq_false_iff_ne.2 (by omega)
  have e1 : (xw == 1) = false := beq_eq_false_iff_ne.2 (by omega)
  have e2 : (xw == 2) = false := beq_eq_false_iff_ne.2 (by omega)
  have e3 : (xw == 3) = false := beq_eq_false_iff_ne.2 (by omega)
  have e4 : (xw == 4) = false := beq_eq_false_iff_ne.2 (by omega)
  have e5 : (xw == 5) = false := beq_eq_false_iff_ne.2 (by omega)
  have e6 : (xw == 6) = false := beq_eq_false_iff_ne.2 (by omega)
  have e7 : (xw == 7) = false := beq_eq_false_iff_ne.2 (by omega)
  have e8 : (xw == 8) = false := beq_eq_false_iff_ne.2 (by omega)
  have e9 : (xw == 9) = false := beq_eq_false_iff_ne.2 (by omega)
  have e10 : (xw == 10) = false := beq_eq_false_iff_ne.2 (by omega)
  clear hw
  have hT := h.box (acA ⟨xw, xc, xn, xr, xv⟩) 34
  obtain ⟨⟨c0, c1, c2, c3, c4, c5⟩, ⟨c6, c7, c8, c9, c10, c11⟩, hql⟩ := hT.get.ac
  simp only at c0 c1 c2 c3 c4 c5 c6 c7 c8 c9 c10 c11
  have HT := hid hT
  clear h hT
  go_enter Try.func23, Try.ntmps23
  go_upto_region 1 with (fail)
  generalize w.alloc (.cells (acA ⟨xw, xc, xn, xr, xv⟩) 34) = W at *
  generalize w.heap.size = q at *
  have hmod : (xn : Int) % 20 = ((xn % 20 : Nat) : Int) := by omega
  have Hmod := hid hmod
  clear hmod c1 c2 c3 c4 c5 c7 c8 c9 c10 c11
  go_upto_region 2 with (fail)
  clear c0
  go_wp2_with fail
  rw [Hmod.out]
  obtain ⟨m, hm⟩ : ∃ m : Int, ((xn % 20 : Nat) : Int) = m := ⟨_, rfl⟩
  rw [hm] at Hmod ⊢
  have Hm := hid hm
  clear hm
  refine (HT.out.swap.call (fun L hL => end_c W b t m L hL)).mono ?_
  obtain ⟨ao, hao⟩ : ∃ ao, endO t m = ao := ⟨_, rfl⟩
  have hPS : Hid (∀ X, Lx 2 prC X (.slice ao.pa ao.pl ao.pc) []) := by
    intro X
    rw [← hao]
    unfold endO
    split
    · exact nil_pr X
    · exact nil_pr X
  rw [hao]
  rintro e w1 ⟨rfl, hT1⟩
  have hT3 := hT1.swap.box (ocC ao) 54
  have HT3 := hid hT3
  clear c6 hql HT hT1
  go_upto_region 3 with (fail)
  have k6 := hT3.swap.get.ac.2.1.1
  have hql := hT3.swap.get.lt
  simp only at k6
  clear hT3
  generalize w1.alloc (.cells (ocC ao) 54) = w3 at *
  generalize w1.heap.size = q14 at *
  go_wp2_with fail
  rw [Hmod.out]
  -- (b14, act, tx', rx, U)
  refine (HT3.out.drop2.swap2.swap.call (fun L hL => rend_c w3 b' t m L hL)).mono ?_
  rw [hao]
  rintro e w4 ⟨rfl, hT4⟩
  have hT5 := hT4.box (ocC ao) 54
  have HT5 := hid hT5
  clear k6 hql HT3 hT4
  go_upto_region 4 with (fail)
  obtain ⟨⟨p0, p1, p2, p3, p4, p5⟩, _⟩ := hT5.get.oc
  have hpl := hT5.get.lt
  obtain ⟨⟨r0, r1, r2, r3, r4, r5⟩, _⟩ := hT5.swap2.swap.get.oc
  have hrl := hT5.swap2.swap.get.lt
  clear hT5 hao
  generalize w4.alloc (.cells (ocC ao) 54) = w5 at *
  generalize w4.heap.size = q16 at *
  go_wp2_with fail
  refine (outcomes_c w5 ao [] (hPS.out _)).mono ?_
  rintro e w6 ⟨rfl, hm6⟩
  have HT6 := hid (HT5.out.mod hm6).drop.drop2.swap
  clear hm6 HT5
  go_wp2
  go_ret
  refine ⟨by first | rfl | simp, ?_⟩
  have hM := Hm.out
  rw [hM]
  exact HT6.out

end
end Go.Proofs.Ytocfeeecgpklnaa
