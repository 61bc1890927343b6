/- What is done to both: calls, Wait. -/
import Derived.Test.YtocfeeecgpklnaaTXV
namespace Go.Proofs.Ytocfeeecgpklnaa
set_option linter.unusedVariables false
set_option linter.unusedSimpArgs false
set_option linter.unusedSectionVars false
open Go.RowKit Go.Shelf

/-- The cells of a box that holds an act. -/
theorem Blk.ac {w : World} {q : Nat} {x : Ac} {T : TypeId} (h : Blk w q (acA x) T) :
    (w.cell? ⟨q, 0, none⟩ = some (.int .i64 x.what) ∧ w.cell? ⟨q, 1, none⟩ = some (.int .i64 x.c.kind) ∧ w.cell? ⟨q, 2, none⟩ = some (.int .u64 x.c.ts) ∧ w.cell? ⟨q, 3, none⟩ = some (.string x.c.key) ∧ w.cell? ⟨q, 4, none⟩ = some (.string x.c.hi) ∧ w.cell? ⟨q, 5, none⟩ = some (.string x.c.val)) ∧
    (w.cell? ⟨q, 6, none⟩ = some (.int .u64 x.n) ∧ w.cell? ⟨q, 7, none⟩ = some (.string x.r.key) ∧ w.cell? ⟨q, 8, none⟩ = some (.int .u64 x.r.ln) ∧ w.cell? ⟨q, 9, none⟩ = some (.bool x.r.dl) ∧ w.cell? ⟨q, 10, none⟩ = some (.string x.r.vl) ∧ w.cell? ⟨q, 11, none⟩ = some (.string x.v)) ∧ q < w.heap.size :=
  ⟨⟨h.cell 0, h.cell 1, h.cell 2, h.cell 3, h.cell 4, h.cell 5⟩, ⟨h.cell 6, h.cell 7, h.cell 8, h.cell 9, h.cell 10, h.cell 11⟩, h.lt⟩

section
variable (w0 w : World) (b b' : Nat) (t : Tx) (x : Ac) (now : Nat) (U : Res) [Keep U]
set_option maxRecDepth 100000 in
set_option maxHeartbeats 1000000 in
theorem do_call (h : Top w0 (star (txR b t) (star (rxR b' t) U)) w) (hk : Kr t.ops) (hl : t.ops.length ≤ 1000) (hc : t.calls ≤ 1000000) (hx : x.Ok) (hw : x.what = 0 ∨ x.what = 1 ∨ x.what = 2 ∨ x.what = 3) :
    Calls Try.prog 23 #[.pointer (some ⟨b, 0, none⟩), .pointer (some ⟨b', 0, none⟩), acV x, .int .u64 now] w fun e w' => e = .returned (.bool true) ∧ Top w0 (star (txR b (callT t (shC x.c) now)) (star (rxR b' (callT t (shC x.c) now)) U)) w' := by
  obtain ⟨xw, xc, xn, xr, xv⟩ := x
  obtain ⟨_, _, ⟨_, _, _, k1, k2, k3⟩, _⟩ := hx
  simp only at hw k1 k2 k3
  have Hk := hid hk
  clear hk
  rcases hw with rfl | rfl | rfl | rfl
  · have HC := hid (fun w => lcall_c w ⟨0, xc, xn, xr, xv⟩ k1 k2 k3)
    have hT := h.box (acA ⟨0, xc, xn, xr, xv⟩) 34
    obtain ⟨⟨c0, c1, c2, c3, c4, c5⟩, ⟨c6, c7, c8, c9, c10, c11⟩, hql⟩ := hT.get.ac
    simp only at c0 c1 c2 c3 c4 c5 c6 c7 c8 c9 c10 c11
    have HT := hid hT
    clear h hT k1 k2 k3
    go_enter Try.func23, Try.ntmps23
    go_upto_region 1 with (fail)
    generalize w.alloc (.cells (acA ⟨0, xc, xn, xr, xv⟩) 34) = W at *
    generalize w.heap.size = q at *
    go_upto_region 9 with (fail)
    go_wp2_with fail
    refine (HC.out _).mono ?_
    rintro e w1 ⟨rfl, hm⟩
    have HT1 := hid (HT.out.mod hm)
    clear hm HT c0 c1 c2 c3 c4 c5 c6 c7 c8 c9 c10 c11 hql
    go_wp2_with fail
    refine (HT1.out.swap.call (fun L hL => call_c w1 b t (shC xc) now L hL Hk.out hl hc)).mono ?_
    rintro e w2 ⟨rfl, hT2⟩
    have HT2 := hid hT2.swap
    obtain ⟨⟨c0, c1, c2, c3, c4, c5⟩, ⟨c6, c7, c8, c9, c10, c11⟩, hql⟩ := hT2.swap.get.ac
    clear hT2 HT1
    go_wp2_with fail
    refine (HC.out _).mono ?_
    rintro e w3 ⟨rfl, hm⟩
    have HT3 := hid (HT2.out.mod hm)
    clear hm HT2 c0 c1 c2 c3 c4 c5 c6 c7 c8 c9 c10 c11 hql
    go_wp2_with fail
    refine (HT3.out.swap2.swap.call (fun L hL => rcall_c w3 b' t (shC xc) now L hL hl hc)).mono ?_
    rintro e w4 ⟨rfl, hT4⟩
    have HT4 := hid hT4.swap.drop.swap
    clear hT4 HT3
    go_wp2
    go_ret
    exact ⟨by simp, HT4.out⟩
  · have HC := hid (fun w => lcall_c w ⟨1, xc, xn, xr, xv⟩ k1 k2 k3)
    have hT := h.box (acA ⟨1, xc, xn, xr, xv⟩) 34
    obtain ⟨⟨c0, c1, c2, c3, c4, c5⟩, ⟨c6, c7, c8, c9, c10, c11⟩, hql⟩ := hT.get.ac
    simp only at c0 c1 c2 c3 c4 c5 c6 c7 c8 c9 c10 c11
    have HT := hid hT
    clear h hT k1 k2 k3
    go_enter Try.func23, Try.ntmps23
    go_upto_region 1 with (fail)
    generalize w.alloc (.cells (acA ⟨1, xc, xn, xr, xv⟩) 34) = W at *
    generalize w.heap.size = q at *
    go_upto_region 9 with (fail)
    go_wp2_with fail
    refine (HC.out _).mono ?_
    rintro e w1 ⟨rfl, hm⟩
    have HT1 := hid (HT.out.mod hm)
    clear hm HT c0 c1 c2 c3 c4 c5 c6 c7 c8 c9 c10 c11 hql
    go_wp2_with fail
    refine (HT1.out.swap.call (fun L hL => call_c w1 b t (shC xc) now L hL Hk.out hl hc)).mono ?_
    rintro e w2 ⟨rfl, hT2⟩
    have HT2 := hid hT2.swap
    obtain ⟨⟨c0, c1, c2, c3, c4, c5⟩, ⟨c6, c7, c8, c9, c10, c11⟩, hql⟩ := hT2.swap.get.ac
    clear hT2 HT1
    go_wp2_with fail
    refine (HC.out _).mono ?_
    rintro e w3 ⟨rfl, hm⟩
    have HT3 := hid (HT2.out.mod hm)
    clear hm HT2 c0 c1 c2 c3 c4 c5 c6 c7 c8 c9 c10 c11 hql
    go_wp2_with fail
    refine (HT3.out.swap2.swap.call (fun L hL => rcall_c w3 b' t (shC xc) now L hL hl hc)).mono ?_
    rintro e w4 ⟨rfl, hT4⟩
    have HT4 := hid hT4.swap.drop.swap
    clear hT4 HT3
    go_wp2
    go_ret
    exact ⟨by simp, HT4.out⟩
  · have HC := hid (fun w => lcall_c w ⟨2, xc, xn, xr, xv⟩ k1 k2 k3)
    have hT := h.box (acA ⟨2, xc, xn, xr, xv⟩) 34
    obtain ⟨⟨c0, c1, c2, c3, c4, c5⟩, ⟨c6, c7, c8, c9, c10, c11⟩, hql⟩ := hT.get.ac
    simp only at c0 c1 c2 c3 c4 c5 c6 c7 c8 c9 c10 c11
    have HT := hid hT
    clear h hT k1 k2 k3
    go_enter Try.func23, Try.ntmps23
    go_upto_region 1 with (fail)
    generalize w.alloc (.cells (acA ⟨2, xc, xn, xr, xv⟩) 34) = W at *
    generalize w.heap.size = q at *
    go_upto_region 9 with (fail)
    go_wp2_with fail
    refine (HC.out _).mono ?_
    rintro e w1 ⟨rfl, hm⟩
    have HT1 := hid (HT.out.mod hm)
    clear hm HT c0 c1 c2 c3 c4 c5 c6 c7 c8 c9 c10 c11 hql
    go_wp2_with fail
    refine (HT1.out.swap.call (fun L hL => call_c w1 b t (shC xc) now L hL Hk.out hl hc)).mono ?_
    rintro e w2 ⟨rfl, hT2⟩
    have HT2 := hid hT2.swap
    obtain ⟨⟨c0, c1, c2, c3, c4, c5⟩, ⟨c6, c7, c8, c9, c10, c11⟩, hql⟩ := hT2.swap.get.ac
    clear hT2 HT1
    go_wp2_with fail
    refine (HC.out _).mono ?_
    rintro e w3 ⟨rfl, hm⟩
    have HT3 := hid (HT2.out.mod hm)
    clear hm HT2 c0 c1 c2 c3 c4 c5 c6 c7 c8 c9 c10 c11 hql
    go_wp2_with fail
    refine (HT3.out.swap2.swap.call (fun L hL => rcall_c w3 b' t (shC xc) now L hL hl hc)).mono ?_
    rintro e w4 ⟨rfl, hT4⟩
    have HT4 := hid hT4.swap.drop.swap
    clear hT4 HT3
    go_wp2
    go_ret
    exact ⟨by simp, HT4.out⟩
  · have HC := hid (fun w => lcall_c w ⟨3, xc, xn, xr, xv⟩ k1 k2 k3)
    have hT := h.box (acA ⟨3, xc, xn, xr, xv⟩) 34
    obtain ⟨⟨c0, c1, c2, c3, c4, c5⟩, ⟨c6, c7, c8, c9, c10, c11⟩, hql⟩ := hT.get.ac
    simp only at c0 c1 c2 c3 c4 c5 c6 c7 c8 c9 c10 c11
    have HT := hid hT
    clear h hT k1 k2 k3
    go_enter Try.func23, Try.ntmps23
    go_upto_region 1 with (fail)
    generalize w.alloc (.cells (acA ⟨3, xc, xn, xr, xv⟩) 34) = W at *
    generalize w.heap.size = q at *
    go_upto_region 9 with (fail)
    go_wp2_with fail
    refine (HC.out _).mono ?_
    rintro e w1 ⟨rfl, hm⟩
    have HT1 := hid (HT.out.mod hm)
    clear hm HT c0 c1 c2 c3 c4 c5 c6 c7 c8 c9 c10 c11 hql
    go_wp2_with fail
    refine (HT1.out.swap.call (fun L hL => call_c w1 b t (shC xc) now L hL Hk.out hl hc)).mono ?_
    rintro e w2 ⟨rfl, hT2⟩
    have HT2 := hid hT2.swap
    obtain ⟨⟨c0, c1, c2, c3, c4, c5⟩, ⟨c6, c7, c8, c9, c10, c11⟩, hql⟩ := hT2.swap.get.ac
    clear hT2 HT1
    go_wp2_with fail
    refine (HC.out _).mono ?_
    rintro e w3 ⟨rfl, hm⟩
    have HT3 := hid (HT2.out.mod hm)
    clear hm HT2 c0 c1 c2 c3 c4 c5 c6 c7 c8 c9 c10 c11 hql
    go_wp2_with fail
    refine (HT3.out.swap2.swap.call (fun L hL => rcall_c w3 b' t (shC xc) now L hL hl hc)).mono ?_
    rintro e w4 ⟨rfl, hT4⟩
    have HT4 := hid hT4.swap.drop.swap
    clear hT4 HT3
    go_wp2
    go_ret
    exact ⟨by simp, HT4.out⟩
end
end Go.Proofs.Ytocfeeecgpklnaa
