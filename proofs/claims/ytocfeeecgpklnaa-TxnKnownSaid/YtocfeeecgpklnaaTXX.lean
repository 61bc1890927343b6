/- What is done to both: Wait, Need, Log, Wrote. -/
import Derived.Test.YtocfeeecgpklnaaTXW
namespace Go.Proofs.Ytocfeeecgpklnaa
set_option linter.unusedVariables false
set_option linter.unusedSimpArgs false
set_option linter.unusedSectionVars false
open Go.RowKit Go.Shelf

section
variable (w0 w : World) (b b' : Nat) (t : Tx) (xw : Int) (xc : Cl) (xn : Nat) (xr : Rc) (xv : ByteArray) (now : Nat) (U : Res) [Keep U]
set_option maxRecDepth 100000 in
set_option maxHeartbeats 1000000 in
theorem do_wait (h : Top w0 (star (txR b t) (star (rxR b' t) U)) w) :
    Calls Try.prog 23 #[.pointer (some ⟨b, 0, none⟩), .pointer (some ⟨b', 0, none⟩), acV ⟨4, xc, xn, xr, xv⟩, .int .u64 now] w fun e w' => e = .returned (.bool true) ∧ Top w0 (star (txR b (waitT t)) (star (rxR b' (waitT t)) U)) w' := by
  have hT := h.box (acA ⟨4, xc, xn, xr, xv⟩) 34
  obtain ⟨⟨c0, c1, c2, c3, c4, c5⟩, ⟨c6, c7, c8, c9, c10, c11⟩, hql⟩ := hT.get.ac
  simp only at c0 c1 c2 c3 c4 c5 c6 c7 c8 c9 c10 c11
  have HT := hid hT
  clear h hT
  go_enter Try.func23, Try.ntmps23
  go_upto_region 1 with (fail)
  generalize w.alloc (.cells (acA ⟨4, xc, xn, xr, xv⟩) 34) = W at *
  generalize w.heap.size = q at *
  go_upto_region 13 with (fail)
  go_wp2_with fail
  refine (HT.out.swap.call (fun L hL => wait_c W b t L hL)).mono ?_
  rintro e w1 ⟨rfl, hT1⟩
  have HT1 := hid hT1.swap
  clear hT1 HT c0 c1 c2 c3 c4 c5 c6 c7 c8 c9 c10 c11 hql
  go_wp2_with fail
  refine (HT1.out.swap2.swap.call (fun L hL => rwait_c w1 b' t L hL)).mono ?_
  rintro e w2 ⟨rfl, hT2⟩
  have HT2 := hid hT2.swap.drop.swap
  clear hT2 HT1
  go_wp2
  go_ret
  exact ⟨by simp, HT2.out⟩

set_option maxRecDepth 100000 in
set_option maxHeartbeats 1000000 in
theorem do_need (h : Top w0 (star (txR b t) (star (rxR b' t) U)) w) :
    Calls Try.prog 23 #[.pointer (some ⟨b, 0, none⟩), .pointer (some ⟨b', 0, none⟩), acV ⟨9, xc, xn, xr, xv⟩, .int .u64 now] w fun e w' => e = .returned (.bool true) ∧ Top w0 (star (txR b (needT t xn)) (star (rxR b' (needT t xn)) U)) w' := by
  have hT := h.box (acA ⟨9, xc, xn, xr, xv⟩) 34
  obtain ⟨⟨c0, c1, c2, c3, c4, c5⟩, ⟨c6, c7, c8, c9, c10, c11⟩, hql⟩ := hT.get.ac
  simp only at c0 c1 c2 c3 c4 c5 c6 c7 c8 c9 c10 c11
  have HT := hid hT
  clear h hT
  go_enter Try.func23, Try.ntmps23
  go_upto_region 1 with (fail)
  generalize w.alloc (.cells (acA ⟨9, xc, xn, xr, xv⟩) 34) = W at *
  generalize w.heap.size = q at *
  go_upto_region 28 with (fail)
  have hTd := HT.out.drew
  have hcd := c6
  clear c0 c1 c2 c3 c4 c5 c7 c8 c9 c10 c11
  go_region_law (first
    | (go_simp; go_at_call 26; (refine (HT.out.drew.swap.call (fun L hL => need_c W.drew b t xn L hL)).mono ?_); rintro e w1 ⟨rfl, hT1⟩; replace hT1 := hid hT1.swap; obtain ⟨_, ⟨k6, _⟩, hql1⟩ := hT1.out.get.ac; simp only at k6)
    | (go_simp; go_at_call 27; (refine (hT1.out.swap2.swap.call (fun L hL => rneed_c w1 b' t xn L hL)).mono ?_); rintro e w2 ⟨rfl, hT2⟩; replace hT2 := hid hT2)
    | fail)
  all_goals
    have HT2 := hid hT2.out.swap.drop.swap
    clear hT2 hT1 HT
    go_wp2
    go_ret
    exact ⟨by simp, HT2.out⟩

set_option maxRecDepth 100000 in
set_option maxHeartbeats 1000000 in
theorem do_log (h : Top w0 (star (txR b t) (star (rxR b' t) U)) w) :
    Calls Try.prog 23 #[.pointer (some ⟨b, 0, none⟩), .pointer (some ⟨b', 0, none⟩), acV ⟨10, xc, xn, xr, xv⟩, .int .u64 now] w fun e w' => e = .returned (.bool true) ∧ Top w0 (star (txR b (logT t xn)) (star (rxR b' (logT t xn)) U)) w' := by
  have hT := h.box (acA ⟨10, xc, xn, xr, xv⟩) 34
  obtain ⟨⟨c0, c1, c2, c3, c4, c5⟩, ⟨c6, c7, c8, c9, c10, c11⟩, hql⟩ := hT.get.ac
  simp only at c0 c1 c2 c3 c4 c5 c6 c7 c8 c9 c10 c11
  have HT := hid hT
  clear h hT
  go_enter Try.func23, Try.ntmps23
  go_upto_region 1 with (fail)
  generalize w.alloc (.cells (acA ⟨10, xc, xn, xr, xv⟩) 34) = W at *
  generalize w.heap.size = q at *
  go_upto_region 30 with (fail)
  have hTd := HT.out.drew
  have hcd := c6
  clear c0 c1 c2 c3 c4 c5 c7 c8 c9 c10 c11
  go_region_law (first
    | (go_simp; go_at_call 21; (refine (HT.out.drew.swap.call (fun L hL => log_c W.drew b t xn L hL)).mono ?_); rintro e w1 ⟨rfl, hT1⟩; replace hT1 := hid hT1.swap; obtain ⟨_, ⟨k6, _⟩, hql1⟩ := hT1.out.get.ac; simp only at k6)
    | (go_simp; go_at_call 53; (refine (hT1.out.swap2.swap.call (fun L hL => rlog_c w1 b' t xn L hL)).mono ?_); rintro e w2 ⟨rfl, hT2⟩; replace hT2 := hid hT2)
    | fail)
  all_goals
    have HT2 := hid hT2.out.swap.drop.swap
    clear hT2 hT1 HT
    go_wp2
    go_ret
    exact ⟨by simp, HT2.out⟩

end
end Go.Proofs.Ytocfeeecgpklnaa
