/- What is done to both: Wrote, Answer, End. -/
import Derived.Test.YtocfeeecgpklnaaTXX
namespace Go.Proofs.Ytocfeeecgpklnaa
set_option linter.unusedVariables false
set_option linter.unusedSimpArgs false
set_option linter.unusedSectionVars false
open Go.RowKit Go.Shelf

def shR (r : Rc) : Rc := { r with key := shortB r.key, vl := shortB r.vl }

theorem Blk.rc {w : World} {q : Nat} {x : Rc} {T : TypeId} (h : Blk w q (rcA x) T) : w.cell? ⟨q, 0, none⟩ = some (.string x.key) ∧ w.cell? ⟨q, 1, none⟩ = some (.int .u64 x.ln) ∧ w.cell? ⟨q, 2, none⟩ = some (.bool x.dl) ∧ w.cell? ⟨q, 3, none⟩ = some (.string x.vl) := ⟨h.cell 0, h.cell 1, h.cell 2, h.cell 3⟩
section
variable (w0 w : World) (b b' : Nat) (t : Tx) (xw : Int) (xc : Cl) (xn : Nat) (xr : Rc) (xv : ByteArray) (now : Nat) (U : Res) [Keep U]
set_option maxRecDepth 100000 in
set_option maxHeartbeats 1000000 in
theorem do_wrote7 (h : Top w0 (star (txR b t) (star (rxR b' t) U)) w) (hk : Kr t.ops) (hl : t.ops.length ≤ 1000) (k1 : xr.key.size ≤ 9223372036854775807) (k2 : xr.vl.size ≤ 9223372036854775807) :
    Calls Try.prog 23 #[.pointer (some ⟨b, 0, none⟩), .pointer (some ⟨b', 0, none⟩), acV ⟨7, xc, xn, xr, xv⟩, .int .u64 now] w fun e w' => e = .returned (.bool true) ∧ Top w0 (star (txR b (wroteT t (shR xr))) (star (rxR b' (wroteT t (shR xr))) U)) w' := by
  have Hk := hid hk
  clear hk
  have hT := h.box (acA ⟨7, xc, xn, xr, xv⟩) 34
  obtain ⟨⟨c0, c1, c2, c3, c4, c5⟩, ⟨c6, c7, c8, c9, c10, c11⟩, hql⟩ := hT.get.ac
  simp only at c0 c1 c2 c3 c4 c5 c6 c7 c8 c9 c10 c11
  have HT := hid hT
  clear h hT
  go_enter Try.func23, Try.ntmps23
  go_upto_region 1 with (fail)
  generalize w.alloc (.cells (acA ⟨7, xc, xn, xr, xv⟩) 34) = W at *
  generalize w.heap.size = q at *
  go_upto_region 23 with (fail)
  clear c0 c1 c2 c3 c4 c5 c6 c11
  go_upto_region 26 with (go_at_call 15; refine (short_c _ _ (by assumption)).mono ?_; rintro e w' ⟨rfl, rfl⟩)
  have hT2 := HT.out.box (rcA (shR xr)) 32
  have HT2 := hid hT2
  have hB := hT2.get
  have d0 : (W.alloc (.cells (rcA (shR xr)) 32)).cell? ⟨W.heap.size, 0, none⟩ = some (.string (shR xr).key) := hB.cell 0
  have d1 : (W.alloc (.cells (rcA (shR xr)) 32)).cell? ⟨W.heap.size, 1, none⟩ = some (.int .u64 (shR xr).ln) := hB.cell 1
  have d2 : (W.alloc (.cells (rcA (shR xr)) 32)).cell? ⟨W.heap.size, 2, none⟩ = some (.bool (shR xr).dl) := hB.cell 2
  have d3 : (W.alloc (.cells (rcA (shR xr)) 32)).cell? ⟨W.heap.size, 3, none⟩ = some (.string (shR xr).vl) := hB.cell 3
  have hdl := hB.lt
  clear hT2 hB HT c7 c8 c9 c10 hql k1 k2
  generalize hZ : shR xr = y at *
  have e0 : shortB xr.key = y.key := by rw [← hZ]; rfl
  have e1 : xr.ln = y.ln := by rw [← hZ]; rfl
  have e2 : xr.dl = y.dl := by rw [← hZ]; rfl
  have e3 : shortB xr.vl = y.vl := by rw [← hZ]; rfl
  rw [e0, e1, e2, e3]
  have HZ := hid hZ
  clear e0 e1 e2 e3 hZ
  generalize W.alloc (.cells (rcA y) 32) = Y at *
  generalize W.heap.size = p at *
  go_region_law (first
    | (go_simp; go_at_call 16; (refine (HT2.out.drew.swap2.swap.call (fun L hL => wrote_c Y.drew b t y L hL Hk.out hl)).mono ?_); rintro e w1 ⟨rfl, hT1⟩; replace hT1 := hid hT1.swap; obtain ⟨k0, k1, k2, k3⟩ := hT1.out.get.rc; have hql1 := hT1.out.get.lt)
    | (go_simp; go_at_call 52; (refine (hT1.out.drop3.drop.swap.call (fun L hL => rwrote_c w1 b' t y L hL Hk.out hl)).mono ?_); rintro e w2 ⟨rfl, hT2⟩; replace hT2 := hid hT2)
    | fail)
  all_goals
    have HT3 := hid hT2.out.swap
    clear hT2 hT1 HT2
    go_wp2
    go_ret
    exact ⟨by first | rfl | simp, by rw [HZ.out]; exact HT3.out⟩

set_option maxRecDepth 100000 in
set_option maxHeartbeats 1000000 in
theorem do_wrote8 (h : Top w0 (star (txR b t) (star (rxR b' t) U)) w) (hk : Kr t.ops) (hl : t.ops.length ≤ 1000) (k1 : xr.key.size ≤ 9223372036854775807) (k2 : xr.vl.size ≤ 9223372036854775807) :
    Calls Try.prog 23 #[.pointer (some ⟨b, 0, none⟩), .pointer (some ⟨b', 0, none⟩), acV ⟨8, xc, xn, xr, xv⟩, .int .u64 now] w fun e w' => e = .returned (.bool true) ∧ Top w0 (star (txR b (wroteT t (shR xr))) (star (rxR b' (wroteT t (shR xr))) U)) w' := by
  have Hk := hid hk
  clear hk
  have hT := h.box (acA ⟨8, xc, xn, xr, xv⟩) 34
  obtain ⟨⟨c0, c1, c2, c3, c4, c5⟩, ⟨c6, c7, c8, c9, c10, c11⟩, hql⟩ := hT.get.ac
  simp only at c0 c1 c2 c3 c4 c5 c6 c7 c8 c9 c10 c11
  have HT := hid hT
  clear h hT
  go_enter Try.func23, Try.ntmps23
  go_upto_region 1 with (fail)
  generalize w.alloc (.cells (acA ⟨8, xc, xn, xr, xv⟩) 34) = W at *
  generalize w.heap.size = q at *
  go_upto_region 23 with (fail)
  clear c0 c1 c2 c3 c4 c5 c6 c11
  go_upto_region 26 with (go_at_call 15; refine (short_c _ _ (by assumption)).mono ?_; rintro e w' ⟨rfl, rfl⟩)
  have hT2 := HT.out.box (rcA (shR xr)) 32
  have HT2 := hid hT2
  have hB := hT2.get
  have d0 : (W.alloc (.cells (rcA (shR xr)) 32)).cell? ⟨W.heap.size, 0, none⟩ = some (.string (shR xr).key) := hB.cell 0
  have d1 : (W.alloc (.cells (rcA (shR xr)) 32)).cell? ⟨W.heap.size, 1, none⟩ = some (.int .u64 (shR xr).ln) := hB.cell 1
  have d2 : (W.alloc (.cells (rcA (shR xr)) 32)).cell? ⟨W.heap.size, 2, none⟩ = some (.bool (shR xr).dl) := hB.cell 2
  have d3 : (W.alloc (.cells (rcA (shR xr)) 32)).cell? ⟨W.heap.size, 3, none⟩ = some (.string (shR xr).vl) := hB.cell 3
  have hdl := hB.lt
  clear hT2 hB HT c7 c8 c9 c10 hql k1 k2
  generalize hZ : shR xr = y at *
  have e0 : shortB xr.key = y.key := by rw [← hZ]; rfl
  have e1 : xr.ln = y.ln := by rw [← hZ]; rfl
  have e2 : xr.dl = y.dl := by rw [← hZ]; rfl
  have e3 : shortB xr.vl = y.vl := by rw [← hZ]; rfl
  rw [e0, e1, e2, e3]
  have HZ := hid hZ
  clear e0 e1 e2 e3 hZ
  generalize W.alloc (.cells (rcA y) 32) = Y at *
  generalize W.heap.size = p at *
  go_region_law (first
    | (go_simp; go_at_call 16; (refine (HT2.out.drew.swap2.swap.call (fun L hL => wrote_c Y.drew b t y L hL Hk.out hl)).mono ?_); rintro e w1 ⟨rfl, hT1⟩; replace hT1 := hid hT1.swap; obtain ⟨k0, k1, k2, k3⟩ := hT1.out.get.rc; have hql1 := hT1.out.get.lt)
    | (go_simp; go_at_call 52; (refine (hT1.out.drop3.drop.swap.call (fun L hL => rwrote_c w1 b' t y L hL Hk.out hl)).mono ?_); rintro e w2 ⟨rfl, hT2⟩; replace hT2 := hid hT2)
    | fail)
  all_goals
    have HT3 := hid hT2.out.swap
    clear hT2 hT1 HT2
    go_wp2
    go_ret
    exact ⟨by first | rfl | simp, by rw [HZ.out]; exact HT3.out⟩

end
end Go.Proofs.Ytocfeeecgpklnaa
