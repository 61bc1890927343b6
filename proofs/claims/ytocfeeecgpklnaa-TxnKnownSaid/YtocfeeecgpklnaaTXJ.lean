/- Answer, Need, Log, End, Wait, Idle. -/
import Derived.Test.YtocfeeecgpklnaaTXI
namespace Go.Proofs.Ytocfeeecgpklnaa
set_option linter.unusedVariables false
set_option linter.unusedSimpArgs false
set_option linter.unusedSectionVars false
open Go.RowKit Go.Shelf

def waitT (t : Tx) : Tx := if t.state = 0 ∧ t.under = true then { t with state := 1 } else t
def answerE (t : Tx) : Int := if t.under = true ∧ t.state ≠ 2 ∧ t.state ≠ 3 then 0 else 5
def answerT (t : Tx) (now : Nat) : Tx := if t.under = true ∧ t.state ≠ 2 ∧ t.state ≠ 3 then { t with under := false, state := 0, at_ := now } else t
def answerO (t : Tx) (o : Oc) : Oc := if t.under = true ∧ t.state ≠ 2 ∧ t.state ≠ 3 then toldO t o else oc0
def needT (t : Tx) (n : Nat) : Tx := { t with need := max t.need n }
def logE (t : Tx) : Int := if t.state = 2 then 0 else 2
def logT (t : Tx) (n : Nat) : Tx := if t.state = 2 then { t with state := 3, need := max t.need n } else t
def endT (t : Tx) (q : Int) : Tx := if overB t then t else { t with state := if t.state = 3 ∧ q = 0 then 4 else 5, under := false }
def endB (t : Tx) : Bool := !overB t && t.under
def endO (t : Tx) (q : Int) : Oc := if endB t then ⟨t.ts, t.calls, q, false, ⟨#[]⟩, none, 0, 0⟩ else oc0
def idleB (t : Tx) (now : Nat) : Bool := decide (t.state = 0) && !t.under && decide (t.at_ ≤ now) && decide (64 ≤ now - t.at_)

/-- The cells of a block that holds an outcome. -/
theorem Blk.oc {w : World} {q : Nat} {o : Oc} {T : TypeId} (h : Blk w q (ocC o) T) :
    (w.cell? ⟨q, 0, none⟩ = some (.int .u64 o.ts) ∧ w.cell? ⟨q, 1, none⟩ = some (.int .i64 o.n) ∧ w.cell? ⟨q, 2, none⟩ = some (.int .i64 o.err) ∧ w.cell? ⟨q, 3, none⟩ = some (.bool o.found) ∧ w.cell? ⟨q, 4, none⟩ = some (.string o.val) ∧ w.cell? ⟨q, 5, none⟩ = some (.slice o.pa o.pl o.pc)) ∧
    (w.frozen? ⟨q, 0, none⟩ = false ∧ w.frozen? ⟨q, 1, none⟩ = false ∧ w.frozen? ⟨q, 2, none⟩ = false ∧ w.frozen? ⟨q, 3, none⟩ = false ∧ w.frozen? ⟨q, 4, none⟩ = false ∧ w.frozen? ⟨q, 5, none⟩ = false) :=
  ⟨⟨h.cell 0, h.cell 1, h.cell 2, h.cell 3, h.cell 4, h.cell 5⟩, ⟨h.free 0, h.free 1, h.free 2, h.free 3, h.free 4, h.free 5⟩⟩
/-- All six cells are stored anew. -/
theorem Blk.ocSet {w : World} {q : Nat} {o : Oc} {T : TypeId} (o' : Oc) (h : Blk w q (ocC o) T) :
    Blk ((((((w.setCell ⟨q, 0, none⟩ (.int .u64 o'.ts)).setCell ⟨q, 1, none⟩ (.int .i64 o'.n)).setCell ⟨q, 2, none⟩ (.int .i64 o'.err)).setCell ⟨q, 3, none⟩ (.bool o'.found)).setCell ⟨q, 4, none⟩ (.string o'.val)).setCell ⟨q, 5, none⟩ (.slice o'.pa o'.pl o'.pc)) q (ocC o') T :=
  (((((h.set 0 _).set 1 _).set 2 _).set 3 _).set 4 _).set 5 _
theorem Mod.ocSet {w : World} (q : Nat) (o' : Oc) :
    Mod [q] w ((((((w.setCell ⟨q, 0, none⟩ (.int .u64 o'.ts)).setCell ⟨q, 1, none⟩ (.int .i64 o'.n)).setCell ⟨q, 2, none⟩ (.int .i64 o'.err)).setCell ⟨q, 3, none⟩ (.bool o'.found)).setCell ⟨q, 4, none⟩ (.string o'.val)).setCell ⟨q, 5, none⟩ (.slice o'.pa o'.pl o'.pc)) :=
  ((((((Mod.refl [q] w).setCell (p := ⟨q, 0, none⟩) (Or.inl (by simp)) _).setCell (p := ⟨q, 1, none⟩) (Or.inl (by simp)) _).setCell (p := ⟨q, 2, none⟩) (Or.inl (by simp)) _).setCell (p := ⟨q, 3, none⟩) (Or.inl (by simp)) _).setCell (p := ⟨q, 4, none⟩) (Or.inl (by simp)) _).setCell (p := ⟨q, 5, none⟩) (Or.inl (by simp)) _

set_option maxRecDepth 100000 in
theorem need_c (w : World) (b : Nat) (t : Tx) (n : Nat) (L : List Nat) (h : txR b t w L) : Calls Try.prog 26 #[.pointer (some ⟨b, 0, none⟩), .int .u64 n] w (Says w L (.int .u64 ((max t.need n : Nat) : Int)) (txR b (needT t n))) := by
  obtain ⟨v, M, hb, ho, hbM, rfl⟩ := h
  have hbl := hb.lt
  have b2 : w.cell? ⟨b, 2, none⟩ = some (.int .u64 t.need) := hb.cell 2
  have f2 := hb.free 2
  have hmx : max (t.need : Int) (n : Int) = ((max t.need n : Nat) : Int) := by omega
  have HB := hid hb
  have HO := hid ho
  clear hb ho
  go_enter Try.func26, Try.ntmps26
  go_wp2
  go_ret
  refine ⟨rfl, b :: M, txR.here (HB.out.set 2 (.int .u64 ((max t.need n : Nat) : Int))) rfl HO.out hbM ((Mod.refl [b] w).setCell (p := ⟨b, 2, none⟩) (Or.inl (by simp)) _), ((Mod.refl [b] w).setCell (p := ⟨b, 2, none⟩) (Or.inl (by simp)) _).mono (by simp), fun k hk => Or.inl hk⟩

set_option maxRecDepth 100000 in
theorem answer_c (w : World) (b : Nat) (t : Tx) (o : Oc) (now : Nat) (L : List Nat) (h : txR b t w L) :
    Calls Try.prog 20 #[.pointer (some ⟨b, 0, none⟩), ocV o, .int .u64 now] w (Says w L (.tuple #[ocV (answerO t o), .int .i64 (answerE t)]) (txR b (answerT t now))) := by
  by_cases hc : t.under = true ∧ t.state ≠ 2 ∧ t.state ≠ 3
  · have hE : Hid (answerE t = 0) := by show _ = _; simp only [answerE, if_pos hc]
    have hT : Hid (answerT t now = { t with under := false, state := 0, at_ := now }) := by show _ = _; simp only [answerT, if_pos hc]
    have hO : Hid (answerO t o = toldO t o) := by show _ = _; simp only [answerO, if_pos hc]
    obtain ⟨v, M, hb, ho, hbM, rfl⟩ := h
    have hbl := hb.lt
    have b5 : w.cell? ⟨b, 5, none⟩ = some (.bool t.under) := hb.cell 5
    rw [hc.1] at b5
    have b3 : w.cell? ⟨b, 3, none⟩ = some (.int .i64 t.state) := hb.cell 3
    have b1 : w.cell? ⟨b, 1, none⟩ = some (.int .u64 t.at_) := hb.cell 1
    have f3 := hb.free 3
    have f1 := hb.free 1
    have e2 : ((t.state : Int) == 2) = false := beq_eq_false_iff_ne.2 (by have := hc.2.1; omega)
    have e3 : ((t.state : Int) == 3) = false := beq_eq_false_iff_ne.2 (by have := hc.2.2; omega)
    have HB := hid hb
    have HO := hid ho
    clear hb ho hc
    go_enter Try.func20, Try.ntmps20
    go_upto_region 6 with (fail)
    have hbY : Blk ((((w.setCell ⟨b, 3, none⟩ (.int .i64 0)).setCell ⟨b, 1, none⟩ (.int .u64 now)).alloc (.cells (ocC o) 54)).alloc (.cells (ocC oc0) 54)) b (txC { t with state := 0, at_ := now } v) 71 := (((HB.out.set 3 (.int .i64 0)).set 1 (.int .u64 now)).alloc (.cells (ocC o) 54)).alloc (.cells (ocC oc0) 54)
    have hmY : Mod [b] w ((((w.setCell ⟨b, 3, none⟩ (.int .i64 0)).setCell ⟨b, 1, none⟩ (.int .u64 now)).alloc (.cells (ocC o) 54)).alloc (.cells (ocC oc0) 54)) := (((((Mod.refl [b] w).setCell (p := ⟨b, 3, none⟩) (Or.inl (by simp)) (.int .i64 0)).setCell (p := ⟨b, 1, none⟩) (Or.inl (by simp)) (.int .u64 now))).alloc (.cells (ocC o) 54)).alloc (.cells (ocC oc0) 54)
    have hp := (Blk.new ((w.setCell ⟨b, 3, none⟩ (.int .i64 0)).setCell ⟨b, 1, none⟩ (.int .u64 now)) (ocC o) 54).alloc (.cells (ocC oc0) 54)
    have hr := Blk.new (((w.setCell ⟨b, 3, none⟩ (.int .i64 0)).setCell ⟨b, 1, none⟩ (.int .u64 now)).alloc (.cells (ocC o) 54)) (ocC oc0) 54
    have z1 : ((w.setCell ⟨b, 3, none⟩ (.int .i64 0)).setCell ⟨b, 1, none⟩ (.int .u64 now)).heap.size = w.heap.size := by simp
    rw [z1] at hp
    rw [World.size_alloc, z1] at hr
    clear z1 b1 b3 b5 f1 f3 e2 e3
    have HTY : Hid (txR b { t with state := 0, at_ := now } _ (b :: M)) := txR.here hbY rfl HO.out hbM hmY
    have HMY := hid (hmY.mono (m := b :: M) (by simp))
    generalize (((w.setCell ⟨b, 3, none⟩ (.int .i64 0)).setCell ⟨b, 1, none⟩ (.int .u64 now)).alloc (.cells (ocC o) 54)).alloc (.cells (ocC oc0) 54) = Y at *
    have hLp : ∀ k ∈ b :: M, k < w.heap.size := fun k hk => by
      rcases List.mem_cons.1 hk with rfl | hk
      · exact hbl
      · exact HO.out.lt k hk
    have HLp := hid hLp
    generalize hq : w.heap.size = q at *
    have Hq := hid hq
    obtain ⟨⟨p0, p1, p2, p3, p4, p5⟩, _⟩ := hp.oc
    have hrl := hr.lt
    have HR := hid hr
    have HC := hid (told_c Y b { t with state := 0, at_ := now } o (b :: M) HTY.out)
    clear hbY hmY hp hr hq hLp
    go_wp2_with fail
    refine HC.out.mono ?_
    rintro e w1 ⟨rfl, L1, hT1, hm1, hf1⟩
    have hr1 := hm1.blk HR.out (fun h => absurd (HLp.out _ h) (by omega))
    obtain ⟨⟨r0, r1, r2, r3, r4, r5⟩, g0, g1, g2, g3, g4, g5⟩ := hr1.oc
    have hrl1 := hr1.lt
    have HR1 := hid hr1
    have HT1 := hid hT1
    have HM1 := hid hm1
    have HF1 := hid hf1
    clear hr1 hT1 hm1 hf1 HC HTY HR HB HO p0 p1 p2 p3 p4 p5
    go_wp2_with fail
    try simp only [Exit.inBlock, Exit.then]
    have hq1 : q + 1 ∉ L1 := fun h => (HF1.out _ h).elim (fun h => absurd (HLp.out _ h) (by omega)) (fun h => by omega)
    have hws := HMY.out.size
    refine bodyPost_ret (res_oc2 rfl _ _ (q + 1) _ rfl (HR1.out.ocSet _)) rfl ?_
    refine ⟨by rw [hE.out, hO.out]; rfl, L1, ?_, ((HMY.out.trans HM1.out (m := b :: M) (fun x hx _ => hx) (fun x hx _ => hx)).trans (Mod.ocSet (q + 1) _) (m := b :: M) (fun x hx _ => hx) (fun x hx hlt => by simp at hx; have := Hq.out; omega)), fun k hk => (HF1.out k hk).imp id (fun h => by omega)⟩
    rw [hT.out]
    exact Keep.mod HT1.out (Mod.ocSet (q + 1) _) (fun k hk => by simp; intro h; exact hq1 (h ▸ hk))
  · have hE : Hid (answerE t = 5) := by show _ = _; simp only [answerE, if_neg hc]
    have hT : Hid (answerT t now = t) := by show _ = _; simp only [answerT, if_neg hc]
    have hO : Hid (answerO t o = oc0) := by show _ = _; simp only [answerO, if_neg hc]
    have HT := hid h
    obtain ⟨v, M, hb, ho, hbM, rfl⟩ := h
    have hbl := hb.lt
    have b5 : w.cell? ⟨b, 5, none⟩ = some (.bool t.under) := hb.cell 5
    have b3 : w.cell? ⟨b, 3, none⟩ = some (.int .i64 t.state) := hb.cell 3
    have HR := hid (Blk.new (w.alloc (.cells (ocC o) 54)) (ocC oc0) 54)
    have HMY := hid (((Mod.refl [] w).alloc (.cells (ocC o) 54)).alloc (.cells (ocC oc0) 54))
    rw [World.size_alloc] at HR
    clear hb ho
    have fin : ∀ Q, Q = ((w.alloc (.cells (ocC o) 54)).alloc (.cells (ocC oc0) 54)) → Says w (b :: M) (.tuple #[ocV (answerO t o), .int .i64 (answerE t)]) (txR b (answerT t now)) (.returned (.tuple #[ocV oc0, .int .i64 5])) Q := by
      rintro Q rfl
      refine ⟨by rw [hE.out, hO.out], b :: M, ?_, HMY.out.mono (by simp), fun k hk => Or.inl hk⟩
      rw [hT.out]
      exact Keep.mod HT.out HMY.out (by simp)
    have HF := hid fin
    clear fin
    rcases hu : t.under with _ | _
    · rw [hu] at b5
      clear hc hu
      go_enter Try.func20, Try.ntmps20
      go_wp2_with fail
      try simp only [Exit.inBlock, Exit.then]
      refine bodyPost_ret (res_oc2 rfl _ _ (w.heap.size + 1) oc0 rfl HR.out) rfl ?_
      exact HF.out _ rfl
    · rw [hu] at b5
      by_cases h2 : t.state = 2
      · rw [h2] at b3
        clear hc hu h2
        go_enter Try.func20, Try.ntmps20
        go_wp2_with fail
        try simp only [Exit.inBlock, Exit.then]
        refine bodyPost_ret (res_oc2 rfl _ _ (w.heap.size + 1) oc0 rfl HR.out) rfl ?_
        exact HF.out _ rfl
      · have h3 : t.state = 3 := by
          apply Classical.byContradiction
          intro h3; exact hc ⟨hu, h2, h3⟩
        rw [h3] at b3
        clear hc hu h2 h3
        go_enter Try.func20, Try.ntmps20
        go_wp2_with fail
        try simp only [Exit.inBlock, Exit.then]
        refine bodyPost_ret (res_oc2 rfl _ _ (w.heap.size + 1) oc0 rfl HR.out) rfl ?_
        exact HF.out _ rfl

set_option maxRecDepth 100000 in
theorem wait_c (w : World) (b : Nat) (t : Tx) (L : List Nat) (h : txR b t w L) : Calls Try.prog 19 #[.pointer (some ⟨b, 0, none⟩)] w (Says w L (.tuple #[]) (txR b (waitT t))) := by
  have HT := hid h
  obtain ⟨v, M, hb, ho, hbM, rfl⟩ := h
  have hbl := hb.lt
  have b3 : w.cell? ⟨b, 3, none⟩ = some (.int .i64 t.state) := hb.cell 3
  have b5 : w.cell? ⟨b, 5, none⟩ = some (.bool t.under) := hb.cell 5
  have f3 := hb.free 3
  have HB := hid hb
  have HO := hid ho
  clear hb ho
  by_cases h0 : t.state = 0
  · rw [h0] at b3
    rcases hu : t.under with _ | _
    · rw [hu] at b5
      have hT : Hid (waitT t = t) := by show _ = _; simp [waitT, hu]
      clear h0 hu
      go_enter Try.func19, Try.ntmps19
      go_wp2
      exact bodyPost_end (results_none rfl _ _ _) rfl (Says.here rfl (hT.out.symm ▸ HT.out))
    · rw [hu] at b5
      have hT : Hid (waitT t = { t with state := 1 }) := by show _ = _; simp [waitT, hu, h0]
      clear h0 hu
      go_enter Try.func19, Try.ntmps19
      go_wp2
      refine bodyPost_end (results_none rfl _ _ _) rfl ⟨rfl, b :: M, ?_, ((Mod.refl [b] w).setCell (p := ⟨b, 3, none⟩) (Or.inl (by simp)) _).mono (by simp), fun k hk => Or.inl hk⟩
      rw [hT.out]
      exact txR.here (HB.out.set 3 (.int .i64 1)) rfl HO.out hbM ((Mod.refl [b] w).setCell (p := ⟨b, 3, none⟩) (Or.inl (by simp)) _)
  · have e0 : ((t.state : Int) == 0) = false := beq_eq_false_iff_ne.2 (by omega)
    have hT : Hid (waitT t = t) := by show _ = _; simp [waitT, h0]
    clear h0
    go_enter Try.func19, Try.ntmps19
    go_wp2
    exact bodyPost_end (results_none rfl _ _ _) rfl (Says.here rfl (hT.out.symm ▸ HT.out))

set_option maxRecDepth 100000 in
theorem log_c (w : World) (b : Nat) (t : Tx) (n : Nat) (L : List Nat) (h : txR b t w L) : Calls Try.prog 21 #[.pointer (some ⟨b, 0, none⟩), .int .u64 n] w (Says w L (.int .i64 (logE t)) (txR b (logT t n))) := by
  have HT := hid h
  obtain ⟨v, M, hb, ho, hbM, rfl⟩ := h
  have hbl := hb.lt
  have b3 : w.cell? ⟨b, 3, none⟩ = some (.int .i64 t.state) := hb.cell 3
  have f3 := hb.free 3
  have HB := hid hb
  have HO := hid ho
  clear hb ho
  by_cases h2 : t.state = 2
  · rw [h2] at b3
    have hT : Hid (logT t n = needT { t with state := 3 } n) := by show _ = _; simp [logT, needT, h2]
    have hE : Hid (logE t = 0) := by show _ = _; simp [logE, h2]
    have HT3 : Hid (txR b { t with state := 3 } (w.setCell ⟨b, 3, none⟩ (.int .i64 3)) (b :: M)) := txR.here (HB.out.set 3 (.int .i64 3)) rfl HO.out hbM ((Mod.refl [b] w).setCell (p := ⟨b, 3, none⟩) (Or.inl (by simp)) _)
    have HM3 := hid (((Mod.refl [b] w).setCell (p := ⟨b, 3, none⟩) (Or.inl (by simp)) (.int .i64 3)).mono (m := b :: M) (by simp))
    clear h2
    go_enter Try.func21, Try.ntmps21
    go_wp2_with fail
    refine (need_c _ b _ n _ HT3.out).mono ?_
    rintro e w1 ⟨rfl, L1, hT1, hm1, hf1⟩
    have HT1 := hid hT1
    have HM1 := hid hm1
    have HF1 := hid hf1
    clear hT1 hm1 hf1
    go_wp2
    go_ret
    have hsz := HM3.out.size
    refine ⟨by rw [hE.out]; rfl, L1, ?_, HM3.out.trans HM1.out (fun x hx _ => hx) (fun x hx _ => hx), fun k hk => (HF1.out k hk).imp id (fun h => by omega)⟩
    rw [hT.out]
    exact HT1.out
  · have e0 : ((t.state : Int) != 2) = true := bne_iff_ne.2 (by omega)
    have hT : Hid (logT t n = t) := by show _ = _; simp [logT, h2]
    have hE : Hid (logE t = 2) := by show _ = _; simp [logE, h2]
    clear h2
    go_enter Try.func21, Try.ntmps21
    go_wp2
    go_ret
    exact Says.here (by rw [hE.out]; rfl) (hT.out.symm ▸ HT.out)
end Go.Proofs.Ytocfeeecgpklnaa
