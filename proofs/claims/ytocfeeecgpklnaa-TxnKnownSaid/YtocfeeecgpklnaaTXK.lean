/- End, Idle, Pending. -/
import Derived.Test.YtocfeeecgpklnaaTXJ
import Derived.IntWalk
namespace Go.Proofs.Ytocfeeecgpklnaa
set_option linter.unusedVariables false
set_option linter.unusedSimpArgs false
set_option linter.unusedSectionVars false
open Go.RowKit Go.Shelf

def endS (t : Tx) (q : Int) : Nat := if t.state = 3 ∧ q = 0 then 4 else 5

theorem Blk.oc0Set {w : World} {q : Nat} {o : Oc} {T : TypeId} (h : Blk w q (ocC o) T) :
    Blk ((((((w.setCell ⟨q, 0, none⟩ (.int .u64 0)).setCell ⟨q, 1, none⟩ (.int .i64 0)).setCell ⟨q, 2, none⟩ (.int .i64 0)).setCell ⟨q, 3, none⟩ (.bool false)).setCell ⟨q, 4, none⟩ (.string ⟨#[]⟩)).setCell ⟨q, 5, none⟩ (.slice none 0 0)) q (ocC oc0) T :=
  (((((h.set 0 _).set 1 _).set 2 _).set 3 _).set 4 _).set 5 _
theorem Mod.oc0Set {w : World} (q : Nat) :
    Mod [q] w ((((((w.setCell ⟨q, 0, none⟩ (.int .u64 0)).setCell ⟨q, 1, none⟩ (.int .i64 0)).setCell ⟨q, 2, none⟩ (.int .i64 0)).setCell ⟨q, 3, none⟩ (.bool false)).setCell ⟨q, 4, none⟩ (.string ⟨#[]⟩)).setCell ⟨q, 5, none⟩ (.slice none 0 0)) :=
  ((((((Mod.refl [q] w).setCell (p := ⟨q, 0, none⟩) (Or.inl (by simp)) _).setCell (p := ⟨q, 1, none⟩) (Or.inl (by simp)) _).setCell (p := ⟨q, 2, none⟩) (Or.inl (by simp)) _).setCell (p := ⟨q, 3, none⟩) (Or.inl (by simp)) _).setCell (p := ⟨q, 4, none⟩) (Or.inl (by simp)) _).setCell (p := ⟨q, 5, none⟩) (Or.inl (by simp)) _

set_option maxRecDepth 100000 in
set_option maxHeartbeats 1000000 in
theorem end_c (w : World) (b : Nat) (t : Tx) (q : Int) (L : List Nat) (h : txR b t w L) :
    Calls Try.prog 22 #[.pointer (some ⟨b, 0, none⟩), .int .i64 q] w (Says w L (.tuple #[ocV (endO t q), .bool (endB t)]) (txR b (endT t q))) := by
  have hW := (Mod.refl [] w).alloc (.cells (ocC oc0) 54)
  have hR := Blk.new w (ocC oc0) 54
  have HLp := hid (Keep.lt h)
  have HT := hid (Keep.mod h hW (by simp))
  have HM := hid hW
  have HR := hid hR
  have HV := hid (live_c _ b t L HT.out)
  clear hW hR h
  by_cases hov : overB t = true
  · have hl : Hid (liveE t = 13) := by show _ = _; simp [liveE, hov]
    have hO : Hid (endO t q = oc0) := by show _ = _; simp [endO, endB, hov]
    have hT : Hid (endT t q = t) := by show _ = _; simp [endT, hov]
    have hB : Hid (endB t = false) := by show _ = _; simp [endB, hov]
    clear hov
    go_enter Try.func22, Try.ntmps22
    go_wp2_with fail
    refine HV.out.mono ?_
    rintro e w1 ⟨rfl, hm1⟩
    rw [hl.out]
    have hR1 := hm1.blk HR.out (by simp)
    obtain ⟨⟨r0, r1, r2, r3, r4, r5⟩, g0, g1, g2, g3, g4, g5⟩ := hR1.oc
    have hrl := hR1.lt
    have HR1 := hid hR1
    have HM1 := hid hm1
    have HRz := hid HR1.out.oc0Set
    clear hR1 hm1 HV HR
    go_wp2_with fail
    try simp only [Exit.inBlock, Exit.then]
    refine bodyPost_ret (res_oc2 rfl _ _ w.heap.size oc0 rfl HRz.out) rfl ?_
    have hm := (HM.out.tr HM1.out).trans (Mod.oc0Set w.heap.size) (m := []) (fun x hx _ => hx) (fun x hx hlt => by simp at hx; omega)
    refine ⟨by rw [hO.out, hB.out]; rfl, L, ?_, hm.mono (by simp), fun k hk => Or.inl hk⟩
    rw [hT.out]
    exact Keep.mod (Keep.mod HT.out HM1.out (by simp)) (Mod.oc0Set w.heap.size) (fun k hk => by have := HLp.out k hk; simp; omega)
  · have hl : Hid (liveE t = 0) := by show _ = _; simp [liveE, hov]
    have hT : Hid (endT t q = { t with state := endS t q, under := false }) := by show _ = _; simp [endT, hov, endS]
    have hB : Hid (endB t = t.under) := by show _ = _; simp [endB, hov]
    have hO : Hid (endO t q = if t.under then ⟨t.ts, t.calls, q, false, ⟨#[]⟩, none, 0, 0⟩ else oc0) := by show _ = _; simp [endO, endB, hov]
    clear hov
    go_enter Try.func22, Try.ntmps22
    go_wp2_with fail
    refine HV.out.mono ?_
    rintro e w1 ⟨rfl, hm1⟩
    rw [hl.out]
    have hR1 := hm1.blk HR.out (by simp)
    have HR1 := hid hR1
    have HMw := hid (HM.out.tr hm1)
    have hT1 := Keep.mod HT.out hm1 (by simp)
    obtain ⟨v, M, hb, ho, hbM, rfl⟩ := hT1
    have hbl := hb.lt
    have b3 : w1.cell? ⟨b, 3, none⟩ = some (.int .i64 t.state) := hb.cell 3
    have b5 : w1.cell? ⟨b, 5, none⟩ = some (.bool t.under) := hb.cell 5
    have f3 := hb.free 3
    have HB := hid hb
    have HO := hid ho
    clear hR1 hm1 HV HR hb ho HM HT
    go_upto_region 3 with (fail)
    go_cut [18] from 10 to 18 (fun z wx => z = .bool (decide (t.state = 3 ∧ q = 0)) ∧ wx = w1)
    case first =>
      by_cases h3 : t.state = 3
      · by_cases hq : q = 0
        · have e0 : (q == 0) = true := beq_iff_eq.2 hq
          have hS : Hid (decide (t.state = 3 ∧ q = 0) = true) := decide_eq_true ⟨h3, hq⟩
          rw [h3] at b3
          clear h3 hq
          go_wp2
          go_meet
          exact ⟨by rw [hS.out], rfl⟩
        · have hS : Hid (decide (t.state = 3 ∧ q = 0) = false) := decide_eq_false (fun h => hq h.2)
          have e0 : (q == 0) = false := beq_eq_false_iff_ne.2 hq
          rw [h3] at b3
          clear h3 hq
          go_wp2
          go_meet
          exact ⟨by rw [hS.out], rfl⟩
      · have hS : Hid (decide (t.state = 3 ∧ q = 0) = false) := decide_eq_false (fun h => h3 h.1)
        have e0 : ((t.state : Int) == 3) = false := beq_eq_false_iff_ne.2 (by omega)
        clear h3
        go_wp2
        go_meet
        exact ⟨by rw [hS.out], rfl⟩
    case rest =>
    obtain ⟨rfl, he⟩ := hcut
    obtain rfl : w1 = wc := he.symm
    go_upto_if 18 with (fail)
    go_cut [18] from 19 to 24 (fun _ wx => wx = w1.setCell ⟨b, 3, none⟩ (.int .i64 (endS t q)))
    case first =>
      by_cases h3 : t.state = 3 ∧ q = 0
      · have hS : Hid (endS t q = 4) := by show _ = _; exact if_pos h3
        rw [decide_eq_true h3]
        clear h3
        go_wp2
        go_meet
        show _ = _
        rw [hS.out]; rfl
      · have hS : Hid (endS t q = 5) := by show _ = _; exact if_neg h3
        rw [decide_eq_false h3]
        clear h3
        go_wp2
        go_meet
        show _ = _
        rw [hS.out]; rfl
    case rest =>
      subst hcut
      have HTs : Hid (txR b { t with state := endS t q } (w1.setCell ⟨b, 3, none⟩ (.int .i64 (endS t q))) (b :: M)) := txR.here (HB.out.set 3 (.int .i64 (endS t q))) rfl HO.out hbM ((Mod.refl [b] w1).setCell (p := ⟨b, 3, none⟩) (Or.inl (by simp)) _)
      have hms := (Mod.refl [b] w1).setCell (p := ⟨b, 3, none⟩) (Or.inl (by simp)) (.int .i64 (endS t q))
      have HMs := hid ((HMw.out.mono (m := b :: M) (by simp)).setCell (p := ⟨b, 3, none⟩) (Or.inl (by simp)) (.int .i64 (endS t q)))
      have hRs := hms.blk HR1.out (fun h => by simp at h; have := HLp.out b (by simp); omega)
      have b5s : (w1.setCell ⟨b, 3, none⟩ (.int .i64 (endS t q))).cell? ⟨b, 5, none⟩ = some (.bool t.under) := by go_simp
      have hbls : b < (w1.setCell ⟨b, 3, none⟩ (.int .i64 (endS t q))).heap.size := by simpa using hbl
      clear hms HR1 b3 b5 f3 hbl
      generalize w1.setCell ⟨b, 3, none⟩ (.int .i64 (endS t q)) = Y at *
      rcases hu : t.under with _ | _
      · rw [hu] at b5s
        have hOu : Hid (endO t q = oc0) := by show _ = _; rw [hO.out, hu]; rfl
        have hBu : Hid (endB t = false) := by show _ = _; rw [hB.out, hu]
        have hTu : Hid (endT t q = { t with state := endS t q }) := by show _ = _; rw [hT.out, ← hu]
        obtain ⟨⟨r0, r1, r2, r3, r4, r5⟩, g0, g1, g2, g3, g4, g5⟩ := hRs.oc
        have hrl := hRs.lt
        have HRz := hid hRs.oc0Set
        clear hRs hu
        go_wp2_with fail
        try simp only [Exit.inBlock, Exit.then]
        refine bodyPost_ret (res_oc2 rfl _ _ w.heap.size oc0 rfl HRz.out) rfl ?_
        refine ⟨by rw [hOu.out, hBu.out]; rfl, b :: M, ?_, HMs.out.trans (Mod.oc0Set w.heap.size) (fun x hx _ => hx) (fun x hx hlt => by simp at hx; omega), fun k hk => Or.inl hk⟩
        rw [hTu.out]
        exact Keep.mod HTs.out (Mod.oc0Set w.heap.size) (fun k hk => by have := HLp.out k hk; simp; omega)
      · rw [hu] at b5s
        have hOu : Hid (endO t q = ⟨t.ts, t.calls, q, false, ⟨#[]⟩, none, 0, 0⟩) := by show _ = _; rw [hO.out, hu]; rfl
        have hBu : Hid (endB t = true) := by show _ = _; rw [hB.out, hu]
        have hrl := hRs.lt
        have HRs := hid hRs
        have HC := hid (told_c Y b { t with state := endS t q } ⟨0, 0, q, false, ⟨#[]⟩, none, 0, 0⟩ (b :: M) HTs.out)
        clear hRs hu
        go_wp2_with fail
        refine HC.out.mono ?_
        rintro e w2 ⟨rfl, L1, hT1, hm1, hf1⟩
        have hr1 := hm1.blk HRs.out (fun h => absurd (HLp.out _ h) (by omega))
        obtain ⟨⟨r0, r1, r2, r3, r4, r5⟩, g0, g1, g2, g3, g4, g5⟩ := hr1.oc
        have hrl1 := hr1.lt
        have HR1 := hid hr1
        have HT1 := hid hT1
        have HM1 := hid hm1
        have HF1 := hid hf1
        clear hr1 hT1 hm1 hf1 HC HTs HRs HB HO
        go_wp2_with fail
        try simp only [Exit.inBlock, Exit.then]
        have hq1 : w.heap.size ∉ L1 := fun h => (HF1.out _ h).elim (fun h => absurd (HLp.out _ h) (by omega)) (fun h => by omega)
        have hws := HMs.out.size
        refine bodyPost_ret (res_oc2 rfl _ _ w.heap.size _ rfl (HR1.out.ocSet _)) rfl ?_
        refine ⟨by rw [hOu.out, hBu.out]; rfl, L1, ?_, ((HMs.out.trans HM1.out (m := b :: M) (fun x hx _ => hx) (fun x hx _ => hx)).trans (Mod.ocSet w.heap.size _) (m := b :: M) (fun x hx _ => hx) (fun x hx hlt => by simp at hx; omega)), fun k hk => (HF1.out k hk).imp id (fun h => by omega)⟩
        rw [hT.out]
        exact Keep.mod HT1.out (Mod.ocSet w.heap.size _) (fun k hk => by simp; intro h; exact hq1 (h ▸ hk))

theorem cl_info : (Try.prog.info? 24).map (·.size) = some 5 := by kernel_rfl
theorem res_cl2 {fn : Func} {p u : Tmp} (h : fn.results = #[.cell p 24, .tmp u]) (tmps : Array Value) (w : World) (g : Nat) (c : Cl) (hp : tmps.getD p undef = .pointer (some ⟨g, 0, none⟩)) (hg : Blk w g (clC c) 24) :
    (results fn tmps).run Try.prog w = .ok (.tuple #[clV c, tmps.getD u undef]) w := by
  rw [results_cell_tmp h, hp]
  show ((loadVar 24 ⟨g, 0, none⟩).run Try.prog w).andThen _ = _
  rw [run_loadVar_row w g _ _ (clC c) (0, 0) _ hg Try.underlying24 rfl cl_info]
  rfl
abbrev cl0 : Cl := ⟨0, 0, ⟨#[]⟩, ⟨#[]⟩, ⟨#[]⟩⟩

set_option maxRecDepth 100000 in
theorem pending_c (w : World) (b : Nat) (t : Tx) (L : List Nat) (h : txR b t w L) :
    Calls Try.prog 18 #[.pointer (some ⟨b, 0, none⟩)] w fun e w' => e = .returned (.tuple #[clV (if t.under then t.call else cl0), .bool t.under]) ∧ Mod [] w w' := by
  obtain ⟨v, M, hb, ho, hbM, rfl⟩ := h
  have hbl := hb.lt
  have b5 : w.cell? ⟨b, 5, none⟩ = some (.bool t.under) := hb.cell 5
  have b6 : w.cell? ⟨b, 6, none⟩ = some (.int .i64 t.call.kind) := hb.cell 6
  have b7 : w.cell? ⟨b, 7, none⟩ = some (.int .u64 t.call.ts) := hb.cell 7
  have b8 : w.cell? ⟨b, 8, none⟩ = some (.string t.call.key) := hb.cell 8
  have b9 : w.cell? ⟨b, 9, none⟩ = some (.string t.call.hi) := hb.cell 9
  have b10 : w.cell? ⟨b, 10, none⟩ = some (.string t.call.val) := hb.cell 10
  clear hb ho
  rcases hu : t.under with _ | _
  · rw [hu] at b5
    clear hu
    go_enter Try.func18, Try.ntmps18
    go_wp2_with fail
    try simp only [Exit.inBlock, Exit.then]
    refine bodyPost_ret (res_cl2 rfl _ _ w.heap.size cl0 rfl (Blk.new w (clC cl0) _)) rfl ?_
    exact ⟨rfl, (Mod.refl [] w).alloc _⟩
  · rw [hu] at b5
    clear hu
    go_enter Try.func18, Try.ntmps18
    go_wp2_with fail
    try simp only [Exit.inBlock, Exit.then]
    refine bodyPost_ret (res_cl2 rfl _ _ w.heap.size t.call rfl (Blk.new w (clC t.call) _)) rfl ?_
    exact ⟨rfl, (Mod.refl [] w).alloc _⟩

set_option maxRecDepth 100000 in
theorem idle_c (w : World) (b : Nat) (t : Tx) (now : Nat) (L : List Nat) (h : txR b t w L) (hnow : now < 18446744073709551616) : Calls Try.prog 28 #[.pointer (some ⟨b, 0, none⟩), .int .u64 now] w fun e w' => e = .returned (.bool (idleB t now)) ∧ w = w' := by
  obtain ⟨v, M, hb, ho, hbM, rfl⟩ := h
  have hbl := hb.lt
  have b1 : w.cell? ⟨b, 1, none⟩ = some (.int .u64 t.at_) := hb.cell 1
  have b3 : w.cell? ⟨b, 3, none⟩ = some (.int .i64 t.state) := hb.cell 3
  have b5 : w.cell? ⟨b, 5, none⟩ = some (.bool t.under) := hb.cell 5
  clear hb ho
  by_cases h0 : t.state = 0
  · rw [h0] at b3
    rcases hu : t.under with _ | _
    · rw [hu] at b5
      by_cases hn : t.at_ ≤ now
      · have g1 : ¬ (now : Int) < t.at_ := by omega
        have g2 : IntKind.u64.wrap ((now : Int) - t.at_) = (now : Int) - t.at_ := by rw [IntKind.wrap_u64]; omega
        by_cases h64 : 64 ≤ now - t.at_
        · have e : Hid (idleB t now = true) := by show _ = _; simp [idleB, h0, hu, hn, h64]
          have e2 : Hid (decide ((64 : Int) ≤ now - t.at_) = true) := by show _ = _; simp; omega
          clear h0 hu hn h64
          go_enter Try.func28, Try.ntmps28
          go_wp2_with fail
          go_ret
          exact ⟨by rw [e.out, ← e2.out, ← g2]; rfl, rfl⟩
        · have e : Hid (idleB t now = false) := by show _ = _; simp [idleB, h0, hu, hn]; omega
          have e2 : Hid (decide ((64 : Int) ≤ now - t.at_) = false) := by show _ = _; simp; omega
          clear h0 hu hn h64
          go_enter Try.func28, Try.ntmps28
          go_wp2_with fail
          go_ret
          exact ⟨by rw [e.out, ← e2.out, ← g2]; rfl, rfl⟩
      · have g1 : (now : Int) < t.at_ := by omega
        have e : Hid (idleB t now = false) := by show _ = _; simp [idleB, h0, hu, hn]
        clear h0 hu hn
        go_enter Try.func28, Try.ntmps28
        go_wp2_with fail
        go_ret
        exact ⟨by rw [e.out]; rfl, rfl⟩
    · rw [hu] at b5
      have e : Hid (idleB t now = false) := by show _ = _; simp [idleB, h0, hu]
      clear h0 hu
      go_enter Try.func28, Try.ntmps28
      go_wp2_with fail
      go_ret
      exact ⟨by rw [e.out]; rfl, rfl⟩
  · have e0 : ((t.state : Int) == 0) = false := beq_eq_false_iff_ne.2 (by omega)
    have e : Hid (idleB t now = false) := by show _ = _; simp [idleB, h0]
    clear h0
    go_enter Try.func28, Try.ntmps28
    go_wp2_with fail
    go_ret
    exact ⟨by rw [e.out]; rfl, rfl⟩
end Go.Proofs.Ytocfeeecgpklnaa
