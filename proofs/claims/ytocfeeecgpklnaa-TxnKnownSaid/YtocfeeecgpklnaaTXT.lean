/- Ops; the document's Need, Log, Wait, Idle, Answer, End. -/
import Derived.Test.YtocfeeecgpklnaaTXS
namespace Go.Proofs.Ytocfeeecgpklnaa
set_option linter.unusedVariables false
set_option linter.unusedSimpArgs false
set_option linter.unusedSectionVars false
open Go.RowKit Go.Shelf

set_option maxRecDepth 100000 in
theorem ops_c (w : World) (b : Nat) (t : Tx) (L : List Nat) (h : txR b t w L) (hl : t.ops.length ≤ 1000) : Calls Try.prog 17 #[.pointer (some ⟨b, 0, none⟩)] w (OwnSays w t.ops) := by
  obtain ⟨v, M, hb, ho, hbM, rfl⟩ := h
  have hbl := hb.lt
  have b11 : w.cell? ⟨b, 11, none⟩ = some v := hb.cell 11
  have HO := hid ho
  obtain ⟨a, cap, rfl, _⟩ := ho.val
  clear hb ho
  go_enter Try.func17, Try.ntmps17
  go_wp2_with (go_at_call 47; (with_reducible refine (clone_c _ _ t.ops M HO.out (by omega)).mono ?_); rintro e w' ⟨v1, L1, rfl, h1, h2, h3⟩; have H1 := hid h1; have H2 := hid h2; have H3 := hid h3; clear h1 h2 h3)
  go_ret
  exact ⟨v1, L1, rfl, H1.out, H2.out, H3.out⟩

set_option maxRecDepth 100000 in
theorem rneed_c (w : World) (b : Nat) (t : Tx) (n : Nat) (L : List Nat) (h : rxR b t w L) : Calls Try.prog 27 #[.pointer (some ⟨b, 0, none⟩), .int .u64 n] w (Says w L (.int .u64 ((max t.need n : Nat) : Int)) (rxR b (needT t n))) := by
  obtain ⟨v, M, hb, ho, hbM, rfl⟩ := h
  have hbl := hb.lt
  have b2 : w.cell? ⟨b, 11, none⟩ = some (.int .u64 t.need) := hb.cell 11
  have f2 := hb.free 11
  have hmx : max (t.need : Int) (n : Int) = ((max t.need n : Nat) : Int) := by omega
  have HB := hid hb
  have HO := hid ho
  clear hb ho
  go_enter Try.func27, Try.ntmps27
  go_wp2
  go_ret
  refine ⟨rfl, b :: M, rxR.here (HB.out.set 11 (.int .u64 ((max t.need n : Nat) : Int))) rfl HO.out hbM ((Mod.refl [b] w).setCell (p := ⟨b, 11, none⟩) (Or.inl (by simp)) _), ((Mod.refl [b] w).setCell (p := ⟨b, 11, none⟩) (Or.inl (by simp)) _).mono (by simp), fun k hk => Or.inl hk⟩

set_option maxRecDepth 100000 in
theorem rlog_c (w : World) (b : Nat) (t : Tx) (n : Nat) (L : List Nat) (h : rxR b t w L) : Calls Try.prog 53 #[.pointer (some ⟨b, 0, none⟩), .int .u64 n] w (Says w L (.int .i64 (logE t)) (rxR b (logT t n))) := by
  have HT := hid h
  obtain ⟨v, M, hb, ho, hbM, rfl⟩ := h
  have hbl := hb.lt
  have b3 : w.cell? ⟨b, 1, none⟩ = some (.int .i64 t.state) := hb.cell 1
  have f3 := hb.free 1
  have HB := hid hb
  have HO := hid ho
  clear hb ho
  by_cases h2 : t.state = 2
  · rw [h2] at b3
    have hT : Hid (logT t n = needT { t with state := 3 } n) := by show _ = _; simp [logT, needT, h2]
    have hE : Hid (logE t = 0) := by show _ = _; simp [logE, h2]
    have HT3 : Hid (rxR b { t with state := 3 } (w.setCell ⟨b, 1, none⟩ (.int .i64 3)) (b :: M)) := rxR.here (HB.out.set 1 (.int .i64 3)) rfl HO.out hbM ((Mod.refl [b] w).setCell (p := ⟨b, 1, none⟩) (Or.inl (by simp)) _)
    have HM3 := hid (((Mod.refl [b] w).setCell (p := ⟨b, 1, none⟩) (Or.inl (by simp)) (.int .i64 3)).mono (m := b :: M) (by simp))
    clear h2
    go_enter Try.func53, Try.ntmps53
    go_wp2_with fail
    refine (rneed_c _ b _ n _ HT3.out).mono ?_
    rintro e w1 ⟨rfl, L1, hT1, hm1, hf1⟩
    have HT1 := hid hT1
    have HM1 := hid hm1
    have HF1 := hid hf1
    clear hT1 hm1 hf1
    go_wp2
    go_ret
    have hsz := HM3.out.size
    refine ⟨by rw [hE.out]; rfl, L1, ?_, HM3.out.trans HM1.out (fun x hx _ => hx) (fun x hx _ => hx), fun k hk => (HF1.out k hk).imp id (fun h => by omega)⟩
    rw [hT.out]
    exact HT1.out
  · have e0 : ((t.state : Int) != 2) = true := bne_iff_ne.2 (by omega)
    have hT : Hid (logT t n = t) := by show _ = _; simp [logT, h2]
    have hE : Hid (logE t = 2) := by show _ = _; simp [logE, h2]
    clear h2
    go_enter Try.func53, Try.ntmps53
    go_wp2
    go_ret
    exact Says.here (by rw [hE.out]; rfl) (hT.out.symm ▸ HT.out)

set_option maxRecDepth 100000 in
theorem rwait_c (w : World) (b : Nat) (t : Tx) (L : List Nat) (h : rxR b t w L) : Calls Try.prog 49 #[.pointer (some ⟨b, 0, none⟩)] w (Says w L (.tuple #[]) (rxR b (waitT t))) := by
  have HT := hid h
  obtain ⟨v, M, hb, ho, hbM, rfl⟩ := h
  have hbl := hb.lt
  have b3 : w.cell? ⟨b, 1, none⟩ = some (.int .i64 t.state) := hb.cell 1
  have b5 : w.cell? ⟨b, 3, none⟩ = some (.bool t.under) := hb.cell 3
  have f3 := hb.free 1
  have HB := hid hb
  have HO := hid ho
  clear hb ho
  by_cases h0 : t.state = 0
  · rw [h0] at b3
    rcases hu : t.under with _ | _
    · rw [hu] at b5
      have hT : Hid (waitT t = t) := by show _ = _; simp [waitT, hu]
      clear h0 hu
      go_enter Try.func49, Try.ntmps49
      go_wp2
      exact bodyPost_end (results_none rfl _ _ _) rfl (Says.here rfl (hT.out.symm ▸ HT.out))
    · rw [hu] at b5
      have hT : Hid (waitT t = { t with state := 1 }) := by show _ = _; simp [waitT, hu, h0]
      clear h0 hu
      go_enter Try.func49, Try.ntmps49
      go_wp2
      refine bodyPost_end (results_none rfl _ _ _) rfl ⟨rfl, b :: M, ?_, ((Mod.refl [b] w).setCell (p := ⟨b, 1, none⟩) (Or.inl (by simp)) _).mono (by simp), fun k hk => Or.inl hk⟩
      rw [hT.out]
      exact rxR.here (HB.out.set 1 (.int .i64 1)) rfl HO.out hbM ((Mod.refl [b] w).setCell (p := ⟨b, 1, none⟩) (Or.inl (by simp)) _)
  · have e0 : ((t.state : Int) == 0) = false := beq_eq_false_iff_ne.2 (by omega)
    have hT : Hid (waitT t = t) := by show _ = _; simp [waitT, h0]
    clear h0
    go_enter Try.func49, Try.ntmps49
    go_wp2
    exact bodyPost_end (results_none rfl _ _ _) rfl (Says.here rfl (hT.out.symm ▸ HT.out))

set_option maxRecDepth 100000 in
theorem ridle_c (w : World) (b : Nat) (t : Tx) (now : Nat) (L : List Nat) (h : rxR b t w L) (hnow : now < 18446744073709551616) : Calls Try.prog 29 #[.pointer (some ⟨b, 0, none⟩), .int .u64 now] w fun e w' => e = .returned (.bool (idleB t now)) ∧ w = w' := by
  obtain ⟨v, M, hb, ho, hbM, rfl⟩ := h
  have hbl := hb.lt
  have b1 : w.cell? ⟨b, 9, none⟩ = some (.int .u64 t.at_) := hb.cell 9
  have b3 : w.cell? ⟨b, 1, none⟩ = some (.int .i64 t.state) := hb.cell 1
  have b5 : w.cell? ⟨b, 3, none⟩ = some (.bool t.under) := hb.cell 3
  clear hb ho
  by_cases h0 : t.state = 0
  · rw [h0] at b3
    rcases hu : t.under with _ | _
    · rw [hu] at b5
      by_cases hn : t.at_ ≤ now
      · have g1 : ¬ (now : Int) < t.at_ := by omega
        have g2 : IntKind.u64.wrap ((now : Int) - t.at_) = (now : Int) - t.at_ := by rw [IntKind.wrap_u64]; omega
        by_cases h64 : 64 ≤ now - t.at_
        · have e : Hid (idleB t now = true) := by show _ = _; simp [idleB, h0, hu, hn, h64]
          have e2 : Hid (decide ((64 : Int) ≤ now - t.at_) = true) := by show _ = _; simp; omega
          clear h0 hu hn h64
          go_enter Try.func29, Try.ntmps29
          go_wp2_with fail
          go_ret
          exact ⟨by rw [e.out, ← e2.out, ← g2]; rfl, rfl⟩
        · have e : Hid (idleB t now = false) := by show _ = _; simp [idleB, h0, hu, hn]; omega
          have e2 : Hid (decide ((64 : Int) ≤ now - t.at_) = false) := by show _ = _; simp; omega
          clear h0 hu hn h64
          go_enter Try.func29, Try.ntmps29
          go_wp2_with fail
          go_ret
          exact ⟨by rw [e.out, ← e2.out, ← g2]; rfl, rfl⟩
      · have g1 : (now : Int) < t.at_ := by omega
        have e : Hid (idleB t now = false) := by show _ = _; simp [idleB, h0, hu, hn]
        clear h0 hu hn
        go_enter Try.func29, Try.ntmps29
        go_wp2_with fail
        go_ret
        exact ⟨by rw [e.out]; rfl, rfl⟩
    · rw [hu] at b5
      have e : Hid (idleB t now = false) := by show _ = _; simp [idleB, h0, hu]
      clear h0 hu
      go_enter Try.func29, Try.ntmps29
      go_wp2_with fail
      go_ret
      exact ⟨by rw [e.out]; rfl, rfl⟩
  · have e0 : ((t.state : Int) == 0) = false := beq_eq_false_iff_ne.2 (by omega)
    have e : Hid (idleB t now = false) := by show _ = _; simp [idleB, h0]
    clear h0
    go_enter Try.func29, Try.ntmps29
    go_wp2_with fail
    go_ret
    exact ⟨by rw [e.out]; rfl, rfl⟩

theorem rans_lit {w : World} {b : Nat} {t : Tx} {v : Value} {T : TypeId} (now : Nat) (h : Blk w b (rxC t v) T) : Blk (((w.setCell ⟨b, 3, none⟩ (.bool false)).setCell ⟨b, 1, none⟩ (.int .i64 0)).setCell ⟨b, 9, none⟩ (.int .u64 now)) b (rxC { t with under := false, state := 0, at_ := now } v) T := by
  have h0 : Blk w b #[.int .u64 t.ts, .int .i64 t.state, .int .i64 t.calls, .bool t.under, .int .i64 t.call.kind, .int .u64 t.call.ts, .string t.call.key, .string t.call.hi, .string t.call.val, .int .u64 t.at_, v, .int .u64 t.need] T := h
  have h1 : Blk (w.setCell ⟨b, 3, none⟩ (.bool false)) b #[.int .u64 t.ts, .int .i64 t.state, .int .i64 t.calls, .bool false, .int .i64 t.call.kind, .int .u64 t.call.ts, .string t.call.key, .string t.call.hi, .string t.call.val, .int .u64 t.at_, v, .int .u64 t.need] T := h0.set 3 (.bool false)
  clear h0 h
  have h2 : Blk ((w.setCell ⟨b, 3, none⟩ (.bool false)).setCell ⟨b, 1, none⟩ (.int .i64 0)) b #[.int .u64 t.ts, .int .i64 0, .int .i64 t.calls, .bool false, .int .i64 t.call.kind, .int .u64 t.call.ts, .string t.call.key, .string t.call.hi, .string t.call.val, .int .u64 t.at_, v, .int .u64 t.need] T := h1.set 1 (.int .i64 0)
  clear h1
  have h3 : Blk (((w.setCell ⟨b, 3, none⟩ (.bool false)).setCell ⟨b, 1, none⟩ (.int .i64 0)).setCell ⟨b, 9, none⟩ (.int .u64 now)) b #[.int .u64 t.ts, .int .i64 0, .int .i64 t.calls, .bool false, .int .i64 t.call.kind, .int .u64 t.call.ts, .string t.call.key, .string t.call.hi, .string t.call.val, .int .u64 now, v, .int .u64 t.need] T := h2.set 9 (.int .u64 now)
  clear h2
  exact h3
theorem rans_mod {w : World} {b : Nat} (now : Nat) : Mod [b] w (((w.setCell ⟨b, 3, none⟩ (.bool false)).setCell ⟨b, 1, none⟩ (.int .i64 0)).setCell ⟨b, 9, none⟩ (.int .u64 now)) :=
  (((Mod.refl [b] w).setCell (p := ⟨b, 3, none⟩) (Or.inl (by simp)) _).setCell (p := ⟨b, 1, none⟩) (Or.inl (by simp)) _).setCell (p := ⟨b, 9, none⟩) (Or.inl (by simp)) _
theorem rend_lit {w : World} {b : Nat} {t : Tx} {v : Value} {T : TypeId} (q : Nat) (h : Blk w b (rxC t v) T) : Blk ((w.setCell ⟨b, 1, none⟩ (.int .i64 q)).setCell ⟨b, 3, none⟩ (.bool false)) b (rxC { t with state := q, under := false } v) T := by
  have h0 : Blk w b #[.int .u64 t.ts, .int .i64 t.state, .int .i64 t.calls, .bool t.under, .int .i64 t.call.kind, .int .u64 t.call.ts, .string t.call.key, .string t.call.hi, .string t.call.val, .int .u64 t.at_, v, .int .u64 t.need] T := h
  have h1 : Blk (w.setCell ⟨b, 1, none⟩ (.int .i64 q)) b #[.int .u64 t.ts, .int .i64 q, .int .i64 t.calls, .bool t.under, .int .i64 t.call.kind, .int .u64 t.call.ts, .string t.call.key, .string t.call.hi, .string t.call.val, .int .u64 t.at_, v, .int .u64 t.need] T := h0.set 1 (.int .i64 q)
  clear h0 h
  have h2 : Blk ((w.setCell ⟨b, 1, none⟩ (.int .i64 q)).setCell ⟨b, 3, none⟩ (.bool false)) b #[.int .u64 t.ts, .int .i64 q, .int .i64 t.calls, .bool false, .int .i64 t.call.kind, .int .u64 t.call.ts, .string t.call.key, .string t.call.hi, .string t.call.val, .int .u64 t.at_, v, .int .u64 t.need] T := h1.set 3 (.bool false)
  clear h1
  exact h2
theorem rend_mod {w : World} {b : Nat} (q : Nat) : Mod [b] w ((w.setCell ⟨b, 1, none⟩ (.int .i64 q)).setCell ⟨b, 3, none⟩ (.bool false)) :=
  ((Mod.refl [b] w).setCell (p := ⟨b, 1, none⟩) (Or.inl (by simp)) _).setCell (p := ⟨b, 3, none⟩) (Or.inl (by simp)) _

set_option maxRecDepth 100000 in
theorem ranswer_c (w : World) (b : Nat) (t : Tx) (o : Oc) (now : Nat) (L : List Nat) (h : rxR b t w L) :
    Calls Try.prog 50 #[.pointer (some ⟨b, 0, none⟩), ocV o, .int .u64 now] w (Says w L (.tuple #[ocV (answerO t o), .int .i64 (answerE t)]) (rxR b (answerT t now))) := by
  have HT := hid h
  obtain ⟨v, M, hb, ho, hbM, rfl⟩ := h
  have hbl := hb.lt
  have b3 : w.cell? ⟨b, 3, none⟩ = some (.bool t.under) := hb.cell 3
  have b1 : w.cell? ⟨b, 1, none⟩ = some (.int .i64 t.state) := hb.cell 1
  have b0 : w.cell? ⟨b, 0, none⟩ = some (.int .u64 t.ts) := hb.cell 0
  have b2 : w.cell? ⟨b, 2, none⟩ = some (.int .i64 t.calls) := hb.cell 2
  have b9 : w.cell? ⟨b, 9, none⟩ = some (.int .u64 t.at_) := hb.cell 9
  by_cases hc : t.under = true ∧ t.state ≠ 2 ∧ t.state ≠ 3
  · have hE : Hid (answerE t = 0) := by show _ = _; simp only [answerE, if_pos hc]
    have hT : Hid (answerT t now = { t with under := false, state := 0, at_ := now }) := by show _ = _; simp only [answerT, if_pos hc]
    have hO : Hid (answerO t o = toldO t o) := by show _ = _; simp only [answerO, if_pos hc]
    rw [hc.1] at b3
    have f3 := hb.free 3
    have f1 := hb.free 1
    have f9 := hb.free 9
    have e2 : ((t.state : Int) == 2) = false := beq_eq_false_iff_ne.2 (by have := hc.2.1; omega)
    have e3 : ((t.state : Int) == 3) = false := beq_eq_false_iff_ne.2 (by have := hc.2.2; omega)
    have HB := hid hb
    have HO := hid ho
    clear hb ho hc
    go_enter Try.func50, Try.ntmps50
    go_wp2_with fail
    try simp only [Exit.inBlock, Exit.then]
    have hz : (((w.setCell ⟨b, 3, none⟩ (.bool false)).setCell ⟨b, 1, none⟩ (.int .i64 0)).setCell ⟨b, 9, none⟩ (.int .u64 now)).heap.size = w.heap.size := by simp
    have hR := Blk.new ((((w.setCell ⟨b, 3, none⟩ (.bool false)).setCell ⟨b, 1, none⟩ (.int .i64 0)).setCell ⟨b, 9, none⟩ (.int .u64 now)).alloc (.cells (ocC (toldO t o)) 54)) (ocC (toldO t o)) 54
    rw [World.size_alloc, hz] at hR
    refine bodyPost_ret (res_oc2 rfl _ _ (w.heap.size + 1) (toldO t o) rfl hR) rfl ?_
    refine ⟨by rw [hE.out, hO.out]; rfl, b :: M, ?_, ((((rans_mod now).mono (m := b :: M) (by simp)).alloc _).alloc _), fun k hk => Or.inl hk⟩
    rw [hT.out]
    exact rxR.here (((rans_lit now HB.out).alloc _).alloc _) rfl HO.out hbM (((rans_mod now).alloc _).alloc _)
  · have hE : Hid (answerE t = 5) := by show _ = _; simp only [answerE, if_neg hc]
    have hT : Hid (answerT t now = t) := by show _ = _; simp only [answerT, if_neg hc]
    have hO : Hid (answerO t o = oc0) := by show _ = _; simp only [answerO, if_neg hc]
    have HR := hid (Blk.new (w.alloc (.cells (ocC o) 54)) (ocC oc0) 54)
    have HMY := hid (((Mod.refl [] w).alloc (.cells (ocC o) 54)).alloc (.cells (ocC oc0) 54))
    rw [World.size_alloc] at HR
    clear hb ho b0 b2 b9
    have fin : ∀ Q, Q = ((w.alloc (.cells (ocC o) 54)).alloc (.cells (ocC oc0) 54)) → Says w (b :: M) (.tuple #[ocV (answerO t o), .int .i64 (answerE t)]) (rxR b (answerT t now)) (.returned (.tuple #[ocV oc0, .int .i64 5])) Q := by
      rintro Q rfl
      refine ⟨by rw [hE.out, hO.out], b :: M, ?_, HMY.out.mono (by simp), fun k hk => Or.inl hk⟩
      rw [hT.out]
      exact Keep.mod HT.out HMY.out (by simp)
    have HF := hid fin
    clear fin
    rcases hu : t.under with _ | _
    · rw [hu] at b3
      clear hc hu
      go_enter Try.func50, Try.ntmps50
      go_wp2_with fail
      try simp only [Exit.inBlock, Exit.then]
      refine bodyPost_ret (res_oc2 rfl _ _ (w.heap.size + 1) oc0 rfl HR.out) rfl ?_
      exact HF.out _ rfl
    · rw [hu] at b3
      by_cases h2 : t.state = 2
      · rw [h2] at b1
        clear hc hu h2
        go_enter Try.func50, Try.ntmps50
        go_wp2_with fail
        try simp only [Exit.inBlock, Exit.then]
        refine bodyPost_ret (res_oc2 rfl _ _ (w.heap.size + 1) oc0 rfl HR.out) rfl ?_
        exact HF.out _ rfl
      · have h3 : t.state = 3 := by
          apply Classical.byContradiction
          intro h3; exact hc ⟨hu, h2, h3⟩
        rw [h3] at b1
        clear hc hu h2 h3
        go_enter Try.func50, Try.ntmps50
        go_wp2_with fail
        try simp only [Exit.inBlock, Exit.then]
        refine bodyPost_ret (res_oc2 rfl _ _ (w.heap.size + 1) oc0 rfl HR.out) rfl ?_
        exact HF.out _ rfl

set_option maxRecDepth 100000 in
set_option maxHeartbeats 2000000 in
theorem rend_c (w : World) (b : Nat) (t : Tx) (q : Int) (L : List Nat) (h : rxR b t w L) :
    Calls Try.prog 54 #[.pointer (some ⟨b, 0, none⟩), .int .i64 q] w (Says w L (.tuple #[ocV (endO t q), .bool (endB t)]) (rxR b (endT t q))) := by
  have HR := hid (Blk.new w (ocC oc0) 54)
  have HM := hid ((Mod.refl [] w).alloc (.cells (ocC oc0) 54))
  have hT := Keep.mod h HM.out (by simp)
  have HT := hid hT
  have HL := hid (Keep.lt h)
  clear h hT
  go_enter Try.func54, Try.ntmps54
  go_upto_region 1 with (fail)
  generalize w.alloc (.cells (ocC oc0) 54) = W at *
  generalize hp : w.heap.size = p at *
  have Hp := hid hp
  clear hp
  rcases hov : overB t with _ | _
  · go_upto_region 3 with (go_at_call 39; refine (over_c W b t L HT.out).mono ?_; rintro e w' ⟨rfl, rfl⟩; rw [hov])
    obtain ⟨v, M, hb, ho, hbM, rfl⟩ := HT.out
    have hbl := hb.lt
    have b3 : W.cell? ⟨b, 3, none⟩ = some (.bool t.under) := hb.cell 3
    have b1 : W.cell? ⟨b, 1, none⟩ = some (.int .i64 t.state) := hb.cell 1
    have b0 : W.cell? ⟨b, 0, none⟩ = some (.int .u64 t.ts) := hb.cell 0
    have b2 : W.cell? ⟨b, 2, none⟩ = some (.int .i64 t.calls) := hb.cell 2
    have f1 := hb.free 1
    have f3 := hb.free 3
    have HB := hid hb
    have HO := hid ho
    have hbp : b < p := HL.out b (by simp)
    have hrl := HR.out.lt
    obtain ⟨⟨r0, r1, r2, r3, r4, r5⟩, g0, g1, g2, g3, g4, g5⟩ := HR.out.oc
    clear hb ho
    have hT : Hid (endT t q = { t with state := endS t q, under := false }) := by show _ = _; simp [endT, hov, endS]
    have hB : Hid (endB t = t.under) := by show _ = _; simp [endB, hov]
    have hO : Hid (endO t q = if t.under then ⟨t.ts, t.calls, q, false, ⟨#[]⟩, none, 0, 0⟩ else oc0) := by show _ = _; simp [endO, endB, hov]
    clear hov
    go_cut [17] from 9 to 17 (fun z wx => z = .bool (decide (t.state = 3 ∧ q = 0)) ∧ wx = W)
    case first =>
      by_cases h3 : t.state = 3
      · by_cases hq : q = 0
        · have e0 : (q == 0) = true := beq_iff_eq.2 hq
          have hS : Hid (decide (t.state = 3 ∧ q = 0) = true) := decide_eq_true ⟨h3, hq⟩
          rw [h3] at b1
          clear h3 hq
          go_wp2
          go_meet
          exact ⟨by rw [hS.out], rfl⟩
        · have hS : Hid (decide (t.state = 3 ∧ q = 0) = false) := decide_eq_false (fun h => hq h.2)
          have e0 : (q == 0) = false := beq_eq_false_iff_ne.2 hq
          rw [h3] at b1
          clear h3 hq
          go_wp2
          go_meet
          exact ⟨by rw [hS.out], rfl⟩
      · have hS : Hid (decide (t.state = 3 ∧ q = 0) = false) := decide_eq_false (fun h => h3 h.1)
        have e1 : ((t.state : Int) == 3) = false := beq_eq_false_iff_ne.2 (by omega)
        clear h3
        by_cases hq : q = 0
        · have e0 : (q == 0) = true := beq_iff_eq.2 hq
          clear hq
          go_wp2
          go_meet
          exact ⟨by rw [hS.out], rfl⟩
        · have e0 : (q == 0) = false := beq_eq_false_iff_ne.2 hq
          clear hq
          go_wp2
          go_meet
          exact ⟨by rw [hS.out], rfl⟩
    case rest =>
    obtain ⟨rfl, he⟩ := hcut
    obtain rfl : W = wc := he.symm
    go_upto_if 17 with (fail)
    go_cut [17] from 18 to 23 (fun _ wx => wx = W.setCell ⟨b, 1, none⟩ (.int .i64 (endS t q)))
    case first =>
      by_cases h3 : t.state = 3 ∧ q = 0
      · have hS : Hid (endS t q = 4) := by show _ = _; exact if_pos h3
        rw [decide_eq_true h3]
        clear h3
        go_wp2
        go_meet
        show _ = _
        rw [hS.out]; rfl
      · have hS : Hid (endS t q = 5) := by show _ = _; exact if_neg h3
        rw [decide_eq_false h3]
        clear h3
        go_wp2
        go_meet
        show _ = _
        rw [hS.out]; rfl
    case rest =>
    subst hcut
    rcases hu : t.under with _ | _
    · rw [hu] at b3
      have hOu : Hid (endO t q = oc0) := by show _ = _; rw [hO.out, hu]; rfl
      have hBu : Hid (endB t = false) := by show _ = _; rw [hB.out, hu]
      have hTu : Hid (endT t q = { t with state := endS t q }) := by show _ = _; rw [hT.out, ← hu]
      have hms := (Mod.refl [b] W).setCell (p := ⟨b, 1, none⟩) (Or.inl (by simp)) (.int .i64 (endS t q))
      have HTs : Hid (rxR b { t with state := endS t q } (W.setCell ⟨b, 1, none⟩ (.int .i64 (endS t q))) (b :: M)) := rxR.here (HB.out.set 1 (.int .i64 (endS t q))) rfl HO.out hbM hms
      have HMs := hid ((HM.out.mono (m := b :: M) (by simp)).setCell (p := ⟨b, 1, none⟩) (Or.inl (by simp)) (.int .i64 (endS t q)))
      have hRs := hms.blk HR.out (fun h => by simp at h; omega)
      have b3s : (W.setCell ⟨b, 1, none⟩ (.int .i64 (endS t q))).cell? ⟨b, 3, none⟩ = some (.bool false) := by go_simp
      clear hms r0 r1 r2 r3 r4 r5 g0 g1 g2 g3 g4 g5 b3 b1 b0 b2 f1 f3 hbl
      have hbls := (Keep.lt HTs.out) b (by simp)
      clear hrl HR
      generalize W.setCell ⟨b, 1, none⟩ (.int .i64 (endS t q)) = Y at *
      obtain ⟨⟨r0, r1, r2, r3, r4, r5⟩, g0, g1, g2, g3, g4, g5⟩ := hRs.oc
      have hrl := hRs.lt
      have HRz := hid hRs.oc0Set
      clear hRs hu
      go_wp2_with fail
      try simp only [Exit.inBlock, Exit.then]
      refine bodyPost_ret (res_oc2 rfl _ _ p oc0 rfl HRz.out) rfl ?_
      refine ⟨by rw [hOu.out, hBu.out]; rfl, b :: M, ?_, HMs.out.trans (Mod.oc0Set p) (fun x hx _ => hx) (fun x hx hlt => by simp at hx; have := Hp.out; omega), fun k hk => Or.inl hk⟩
      rw [hTu.out]
      exact Keep.mod HTs.out (Mod.oc0Set p) (fun k hk => by have := HL.out k hk; simp; omega)
    · rw [hu] at b3
      have hOu : Hid (endO t q = ⟨t.ts, t.calls, q, false, ⟨#[]⟩, none, 0, 0⟩) := by show _ = _; rw [hO.out, hu]; rfl
      have hBu : Hid (endB t = true) := by show _ = _; rw [hB.out, hu]
      clear hu
      have HB2 := hid (rend_lit (endS t q) HB.out)
      have hm2 : Mod [b] W _ := rend_mod (endS t q)
      have HM2 := hid hm2
      have hRs := HM2.out.blk HR.out (fun h => by simp at h; omega)
      have z0 : ((W.setCell ⟨b, 1, none⟩ (.int .i64 (endS t q))).setCell ⟨b, 3, none⟩ (.bool false)).cell? ⟨b, 0, none⟩ = some (.int .u64 t.ts) := by go_simp
      have z2 : ((W.setCell ⟨b, 1, none⟩ (.int .i64 (endS t q))).setCell ⟨b, 3, none⟩ (.bool false)).cell? ⟨b, 2, none⟩ = some (.int .i64 t.calls) := by go_simp
      go_upto_region 9 with (fail)
      clear r0 r1 r2 r3 r4 r5 g0 g1 g2 g3 g4 g5 b3 b1 b0 b2 f1 f3 hbl hrl HR hm2
      have HTs : Hid (rxR b { t with state := endS t q, under := false } ((W.setCell ⟨b, 1, none⟩ (.int .i64 (endS t q))).setCell ⟨b, 3, none⟩ (.bool false)) (b :: M)) := rxR.here HB2.out rfl HO.out hbM HM2.out
      have HMs := hid ((HM.out.mono (m := b :: M) (by simp)).trans HM2.out (fun x hx _ => hx) (fun x hx _ => by simp at hx; simp [hx]))
      clear HM2 HB2
      generalize (W.setCell ⟨b, 1, none⟩ (.int .i64 (endS t q))).setCell ⟨b, 3, none⟩ (.bool false) = Y at *
      have hbls := (Keep.lt HTs.out) b (by simp)
      obtain ⟨⟨r0, r1, r2, r3, r4, r5⟩, g0, g1, g2, g3, g4, g5⟩ := hRs.oc
      have hrl := hRs.lt
      have HRz := hid (hRs.ocSet ⟨t.ts, t.calls, q, false, ⟨#[]⟩, none, 0, 0⟩)
      clear hRs
      go_region
      all_goals
        go_wp2_with fail
        try simp only [Exit.inBlock, Exit.then]
        refine bodyPost_ret (res_oc2 rfl _ _ p _ rfl HRz.out.drew) rfl ?_
        refine ⟨by rw [hOu.out, hBu.out]; rfl, b :: M, ?_, (HMs.out.trans (Mod.ocSet p ⟨t.ts, t.calls, q, false, ⟨#[]⟩, none, 0, 0⟩) (m := b :: M) (fun x hx _ => hx) (fun x hx hlt => by simp at hx; have := Hp.out; omega)).drew, fun k hk => Or.inl hk⟩
        rw [hT.out]
        exact Keep.mod HTs.out (Mod.ocSet p ⟨t.ts, t.calls, q, false, ⟨#[]⟩, none, 0, 0⟩).drew (fun k hk => by have := HL.out k hk; simp; omega)
  · have hB : Hid (endB t = false) := by show _ = _; simp [endB, hov]
    have hO : Hid (endO t q = oc0) := by show _ = _; simp [endO, hB.out]
    have hT : Hid (endT t q = t) := by show _ = _; simp [endT, hov]
    obtain ⟨⟨r0, r1, r2, r3, r4, r5⟩, g0, g1, g2, g3, g4, g5⟩ := HR.out.oc
    have hrl := HR.out.lt
    have HRz := hid HR.out.oc0Set
    go_wp2_with (go_at_call 39; refine (over_c W b t L HT.out).mono ?_; rintro e w' ⟨rfl, rfl⟩; rw [hov])
    try simp only [Exit.inBlock, Exit.then]
    refine bodyPost_ret (res_oc2 rfl _ _ p oc0 rfl HRz.out) rfl ?_
    have hm := HM.out.trans (Mod.oc0Set p) (m := []) (fun x hx _ => hx) (fun x hx hlt => by simp at hx; have := Hp.out; omega)
    refine ⟨by rw [hO.out, hB.out]; rfl, L, ?_, hm.mono (by simp), fun k hk => Or.inl hk⟩
    rw [hT.out]
    exact Keep.mod HT.out (Mod.oc0Set p) (fun k hk => by have := HL.out k hk; simp; omega)

end Go.Proofs.Ytocfeeecgpklnaa
