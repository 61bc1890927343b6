/- Call. -/
import Derived.Test.YtocfeeecgpklnaaTXG
namespace Go.Proofs.Ytocfeeecgpklnaa
set_option linter.unusedVariables false
set_option linter.unusedSimpArgs false
set_option linter.unusedSectionVars false
open Go.RowKit Go.Shelf

theorem Blk.set_eq {w : World} {b : Nat} {c c' : Array Value} {T : TypeId} (h : Blk w b c T) (i : Nat) (v : Value) (e : c.setIfInBounds i v = c') : Blk (w.setCell ⟨b, i, none⟩ v) b c' T := e ▸ h.set i v

/-- The first number that is none of nought. -/
def firstI (q0 q1 q2 q3 q4 : Int) : Int := if q0 ≠ 0 then q0 else if q1 ≠ 0 then q1 else if q2 ≠ 0 then q2 else if q3 ≠ 0 then q3 else q4
theorem pick5 {A : Value → Int → Prop} {v0 v1 v2 v3 v4 : Value} {q0 q1 q2 q3 q4 : Int} (h0 : A v0 q0) (h1 : A v1 q1) (h2 : A v2 q2) (h3 : A v3 q3) (h4 : A v4 q4) :
    ∃ m, (∀ i v, i < m → ([v0, v1, v2, v3, v4] : List Value)[i]? = some v → A v 0) ∧ ((m = 5 ∧ firstI q0 q1 q2 q3 q4 = 0) ∨ (m < 5 ∧ firstI q0 q1 q2 q3 q4 ≠ 0 ∧ ∀ v, ([v0, v1, v2, v3, v4] : List Value)[m]? = some v → A v (firstI q0 q1 q2 q3 q4))) := by
  unfold firstI
  by_cases e0 : q0 = 0
  · by_cases e1 : q1 = 0
    · by_cases e2 : q2 = 0
      · by_cases e3 : q3 = 0
        · by_cases e4 : q4 = 0
          · subst e0 e1 e2 e3 e4
            refine ⟨5, fun i v hi hv => ?_, Or.inl ⟨rfl, by simp⟩⟩
            rcases (by omega : i = 0 ∨ i = 1 ∨ i = 2 ∨ i = 3 ∨ i = 4) with rfl | rfl | rfl | rfl | rfl <;> (simp at hv; subst hv; assumption)
          · subst e0 e1 e2 e3
            refine ⟨4, fun i v hi hv => ?_, Or.inr ⟨by omega, by simp [e4], fun v hv => by simp at hv; subst hv; simpa using h4⟩⟩
            rcases (by omega : i = 0 ∨ i = 1 ∨ i = 2 ∨ i = 3) with rfl | rfl | rfl | rfl <;> (simp at hv; subst hv; assumption)
        · subst e0 e1 e2
          refine ⟨3, fun i v hi hv => ?_, Or.inr ⟨by omega, by simp [e3], fun v hv => by simp at hv; subst hv; simpa [e3] using h3⟩⟩
          rcases (by omega : i = 0 ∨ i = 1 ∨ i = 2) with rfl | rfl | rfl <;> (simp at hv; subst hv; assumption)
      · subst e0 e1
        refine ⟨2, fun i v hi hv => ?_, Or.inr ⟨by omega, by simp [e2], fun v hv => by simp at hv; subst hv; simpa [e2] using h2⟩⟩
        rcases (by omega : i = 0 ∨ i = 1) with rfl | rfl <;> (simp at hv; subst hv; assumption)
    · subst e0
      refine ⟨1, fun i v hi hv => ?_, Or.inr ⟨by omega, by simp [e1], fun v hv => by simp at hv; subst hv; simpa [e1] using h1⟩⟩
      obtain rfl : i = 0 := by omega
      simp at hv; subst hv; assumption
  · refine ⟨0, fun i v hi hv => by omega, Or.inr ⟨by omega, by simp [e0], fun v hv => by simp at hv; subst hv; simpa [e0] using h0⟩⟩

/-- What a call is told. -/
def callE (t : Tx) (c : Cl) : Int := firstI (liveE t) (idleE t) (rightE t.ts c) (shortE c) (roomC t c)
def callT (t : Tx) (c : Cl) (now : Nat) : Tx := if callE t c = 0 then { t with calls := t.calls + 1, under := true, call := c, at_ := now, state := if c.kind = 5 then 2 else t.state } else t
def callN (t : Tx) (c : Cl) : Nat := if callE t c = 0 then t.calls + 1 else 0

set_option maxRecDepth 100000 in
set_option maxHeartbeats 4000000 in
theorem call_c (w : World) (b : Nat) (t : Tx) (c : Cl) (now : Nat) (L : List Nat) (h : txR b t w L) (hs : Kr t.ops) (hl : t.ops.length ≤ 1000) (hc : t.calls ≤ 1000000) :
    Calls Try.prog 12 #[.pointer (some ⟨b, 0, none⟩), clV c, .int .u64 now] w (Says w L (.tuple #[.int .i64 (callN t c), .int .i64 (callE t c)]) (txR b (callT t c now))) := by
  have hM := ((Mod.refl [] w).alloc (.cells #[.pointer (some ⟨b, 0, none⟩)] 25)).alloc (.cells (clC c) 24)
  have hP := (Blk.new w #[.pointer (some ⟨b, 0, none⟩)] 25).alloc (.cells (clC c) 24)
  have hQ := Blk.new (w.alloc (.cells #[.pointer (some ⟨b, 0, none⟩)] 25)) (clC c) 24
  rw [World.size_alloc] at hQ
  have hT := Keep.mod h hM (by simp)
  have hbl : b < w.heap.size := Keep.lt h b (by obtain ⟨v, M, _, _, _, rfl⟩ := h; simp)
  have HT := hid hT
  have HM := hid hM
  have HP := hid hP
  have HQ := hid hQ
  have Hs := hid hs
  have hLl := hid (Keep.lt h)
  clear h hT hM hP hQ hs
  go_enter Try.func12, Try.ntmps12
  go_upto_region 5 with (fail)
  generalize (w.alloc (.cells #[.pointer (some ⟨b, 0, none⟩)] 25)).alloc (.cells (clC c) 24) = W at *
  generalize hp : w.heap.size = p at *
  have Hp := hid hp
  have p0 : W.cell? ⟨p, 0, none⟩ = some (.pointer (some ⟨b, 0, none⟩)) := HP.out.cell 0
  have hpl := HP.out.lt
  clear hp
  have hF : Hid (Calls Try.prog 37 #[.slice (some ⟨W.heap.size, 0, none⟩) 5 5] (W.alloc (.cells #[.func (.func 38) #[.pointer (some ⟨b, 0, none⟩)] #[], .func (.func 30) #[] #[.pointer (some ⟨p, 0, none⟩)], .func (.func 32) #[] #[.pointer (some ⟨p, 0, none⟩), .pointer (some ⟨p + 1, 0, none⟩)], .func (.func 34) #[] #[.pointer (some ⟨p + 1, 0, none⟩)], .func (.func 35) #[] #[.pointer (some ⟨p + 1, 0, none⟩), .pointer (some ⟨p, 0, none⟩)]] 73)) fun e w' => e = .returned (.int .i64 (callE t c)) ∧ Mod [] (W.alloc (.cells #[.func (.func 38) #[.pointer (some ⟨b, 0, none⟩)] #[], .func (.func 30) #[] #[.pointer (some ⟨p, 0, none⟩)], .func (.func 32) #[] #[.pointer (some ⟨p, 0, none⟩), .pointer (some ⟨p + 1, 0, none⟩)], .func (.func 34) #[] #[.pointer (some ⟨p + 1, 0, none⟩)], .func (.func 35) #[] #[.pointer (some ⟨p + 1, 0, none⟩), .pointer (some ⟨p, 0, none⟩)]] 73)) w') := by
    have hm := (Mod.refl [] W).alloc (.cells #[.func (.func 38) #[.pointer (some ⟨b, 0, none⟩)] #[], .func (.func 30) #[] #[.pointer (some ⟨p, 0, none⟩)], .func (.func 32) #[] #[.pointer (some ⟨p, 0, none⟩), .pointer (some ⟨p + 1, 0, none⟩)], .func (.func 34) #[] #[.pointer (some ⟨p + 1, 0, none⟩)], .func (.func 35) #[] #[.pointer (some ⟨p + 1, 0, none⟩), .pointer (some ⟨p, 0, none⟩)]] 73)
    obtain ⟨m, h1, h2⟩ := pick5 (A := AskE (W.alloc (.cells #[.func (.func 38) #[.pointer (some ⟨b, 0, none⟩)] #[], .func (.func 30) #[] #[.pointer (some ⟨p, 0, none⟩)], .func (.func 32) #[] #[.pointer (some ⟨p, 0, none⟩), .pointer (some ⟨p + 1, 0, none⟩)], .func (.func 34) #[] #[.pointer (some ⟨p + 1, 0, none⟩)], .func (.func 35) #[] #[.pointer (some ⟨p + 1, 0, none⟩), .pointer (some ⟨p, 0, none⟩)]] 73))) ((ask_live W b t L HT.out).mod hm) ((ask_idle W b p t L HT.out HP.out).mod hm) ((ask_right W b p (p + 1) t c L HT.out HP.out HQ.out).mod hm) ((ask_short W (p + 1) c HQ.out).mod hm) ((ask_room W b p (p + 1) t c L HT.out Hs.out hl HP.out HQ.out).mod hm)
    have hb := Blk.new W #[.func (.func 38) #[.pointer (some ⟨b, 0, none⟩)] #[], .func (.func 30) #[] #[.pointer (some ⟨p, 0, none⟩)], .func (.func 32) #[] #[.pointer (some ⟨p, 0, none⟩), .pointer (some ⟨p + 1, 0, none⟩)], .func (.func 34) #[] #[.pointer (some ⟨p + 1, 0, none⟩)], .func (.func 35) #[] #[.pointer (some ⟨p + 1, 0, none⟩), .pointer (some ⟨p, 0, none⟩)]] 73
    exact first_c _ _ 5 [.func (.func 38) #[.pointer (some ⟨b, 0, none⟩)] #[], .func (.func 30) #[] #[.pointer (some ⟨p, 0, none⟩)], .func (.func 32) #[] #[.pointer (some ⟨p, 0, none⟩), .pointer (some ⟨p + 1, 0, none⟩)], .func (.func 34) #[] #[.pointer (some ⟨p + 1, 0, none⟩)], .func (.func 35) #[] #[.pointer (some ⟨p + 1, 0, none⟩), .pointer (some ⟨p, 0, none⟩)]] (callE t c) m rfl (by omega) (fun i v hv => by rw [hb.cell]; simpa using hv) h1 h2
  go_wp2_with fail
  refine hF.out.mono ?_
  rintro e w1 ⟨rfl, hm1⟩
  have hmW := ((Mod.refl [] W).alloc (.cells #[.func (.func 38) #[.pointer (some ⟨b, 0, none⟩)] #[], .func (.func 30) #[] #[.pointer (some ⟨p, 0, none⟩)], .func (.func 32) #[] #[.pointer (some ⟨p, 0, none⟩), .pointer (some ⟨p + 1, 0, none⟩)], .func (.func 34) #[] #[.pointer (some ⟨p + 1, 0, none⟩)], .func (.func 35) #[] #[.pointer (some ⟨p + 1, 0, none⟩), .pointer (some ⟨p, 0, none⟩)]] 73)).tr hm1
  have HT1 := hid (Keep.mod HT.out hmW (by simp))
  have hP1 := hmW.blk HP.out (by simp)
  have hQ1 := hmW.blk HQ.out (by simp)
  have HM1 := hid (HM.out.tr hmW)
  have p1 : w1.cell? ⟨p, 0, none⟩ = some (.pointer (some ⟨b, 0, none⟩)) := hP1.cell 0
  have q0 : w1.cell? ⟨p + 1, 0, none⟩ = some (.int .i64 c.kind) := hQ1.cell 0
  have q1 : w1.cell? ⟨p + 1, 1, none⟩ = some (.int .u64 c.ts) := hQ1.cell 1
  have q2 : w1.cell? ⟨p + 1, 2, none⟩ = some (.string c.key) := hQ1.cell 2
  have q3 : w1.cell? ⟨p + 1, 3, none⟩ = some (.string c.hi) := hQ1.cell 3
  have q4 : w1.cell? ⟨p + 1, 4, none⟩ = some (.string c.val) := hQ1.cell 4
  have hpl1 := hP1.lt
  have hql1 := hQ1.lt
  clear hm1 hmW hP1 hQ1 hF HP HQ HT p0 hpl
  by_cases hE : callE t c = 0
  · have HcT : Hid (callT t c now = { t with calls := t.calls + 1, under := true, call := c, at_ := now, state := if c.kind = 5 then 2 else t.state }) := by show _ = _; unfold callT; rw [if_pos hE]
    have HcN : Hid (callN t c = t.calls + 1) := by show _ = _; unfold callN; rw [if_pos hE]
    have HcE := hid hE
    rw [hE]
    obtain ⟨v, M, hb, ho, hbM, rfl⟩ := HT1.out
    have b4 : w1.cell? ⟨b, 4, none⟩ = some (.int .i64 t.calls) := hb.cell 4
    have f4 := hb.free 4
    have hb1l := hb.lt
    have hcalls : (t.calls : Int) + 1 ≤ 1000001 := by omega
    have HB := hid hb
    have HO := hid ho
    have hbp : b ≠ p := by have := Hp.out; omega
    have hbp1 : b ≠ p + 1 := by have := Hp.out; omega
    clear hb ho hE
    go_upto_region 9 with (fail)
    have HB1 : Hid (Blk (w1.setCell ⟨b, 4, none⟩ (.int .i64 ((t.calls : Int) + 1))) b #[.int .u64 t.ts, .int .u64 t.at_, .int .u64 t.need, .int .i64 t.state, .int .i64 ((t.calls : Int) + 1), .bool t.under, .int .i64 t.call.kind, .int .u64 t.call.ts, .string t.call.key, .string t.call.hi, .string t.call.val, v] 71) := HB.out.set 4 _
    have HO1 := hid (HO.out.mod ((Mod.refl [b] w1).setCell (p := ⟨b, 4, none⟩) (by simp) (.int .i64 ((t.calls : Int) + 1))) (fun k hk => by simp; intro h; exact hbM (h ▸ hk)))
    have HM2 := hid ((HM1.out.mono (m := b :: M) (by simp)).setCell (p := ⟨b, 4, none⟩) (Or.inl (by simp)) (.int .i64 ((t.calls : Int) + 1)))
    have p2 : (w1.setCell ⟨b, 4, none⟩ (.int .i64 ((t.calls : Int) + 1))).cell? ⟨p, 0, none⟩ = some (.pointer (some ⟨b, 0, none⟩)) := by go_simp
    have r0 : (w1.setCell ⟨b, 4, none⟩ (.int .i64 ((t.calls : Int) + 1))).cell? ⟨p + 1, 0, none⟩ = some (.int .i64 c.kind) := by go_simp
    have r1 : (w1.setCell ⟨b, 4, none⟩ (.int .i64 ((t.calls : Int) + 1))).cell? ⟨p + 1, 1, none⟩ = some (.int .u64 c.ts) := by go_simp
    have r2 : (w1.setCell ⟨b, 4, none⟩ (.int .i64 ((t.calls : Int) + 1))).cell? ⟨p + 1, 2, none⟩ = some (.string c.key) := by go_simp
    have r3 : (w1.setCell ⟨b, 4, none⟩ (.int .i64 ((t.calls : Int) + 1))).cell? ⟨p + 1, 3, none⟩ = some (.string c.hi) := by go_simp
    have r4 : (w1.setCell ⟨b, 4, none⟩ (.int .i64 ((t.calls : Int) + 1))).cell? ⟨p + 1, 4, none⟩ = some (.string c.val) := by go_simp
    have hpw : w.heap.size = p := Hp.out
    have hpM : p ∉ M := fun hk => absurd (hLl.out p (by simp [hk])) (by omega)
    have hp1M : p + 1 ∉ M := fun hk => absurd (hLl.out (p + 1) (by simp [hk])) (by omega)
    clear hpw
    clear HB HO HT1 HM1 p1 q0 q1 q2 q3 q4 b4 f4 Hs hpl1 hql1 hb1l
    generalize w1.setCell ⟨b, 4, none⟩ (.int .i64 ((t.calls : Int) + 1)) = X at *
    clear w1
    have x1 := HB1.out.cell 1
    have x5 := HB1.out.cell 5
    have x6 := HB1.out.cell 6
    have x7 := HB1.out.cell 7
    have x8 := HB1.out.cell 8
    have x9 := HB1.out.cell 9
    have x10 := HB1.out.cell 10
    have y1 := HB1.out.free 1
    have y5 := HB1.out.free 5
    have y6 := HB1.out.free 6
    have y7 := HB1.out.free 7
    have y8 := HB1.out.free 8
    have y9 := HB1.out.free 9
    have y10 := HB1.out.free 10
    have hbX := HB1.out.lt
    simp only [List.getElem?_toArray, List.getElem?_cons_zero, List.getElem?_cons_succ] at x1 x5 x6 x7 x8 x9 x10
    have HBn : Hid (Blk (((((((X.setCell ⟨b, 5, none⟩ (.bool true)).setCell ⟨b, 6, none⟩ (.int .i64 c.kind)).setCell ⟨b, 7, none⟩ (.int .u64 c.ts)).setCell ⟨b, 8, none⟩ (.string c.key)).setCell ⟨b, 9, none⟩ (.string c.hi)).setCell ⟨b, 10, none⟩ (.string c.val)).setCell ⟨b, 1, none⟩ (.int .u64 now)).drew b #[.int .u64 t.ts, .int .u64 now, .int .u64 t.need, .int .i64 t.state, .int .i64 ((t.calls : Int) + 1), .bool true, .int .i64 c.kind, .int .u64 c.ts, .string c.key, .string c.hi, .string c.val, v] 71) := (((((((HB1.out.set 5 (.bool true)).set 6 (.int .i64 c.kind)).set 7 (.int .u64 c.ts)).set 8 (.string c.key)).set 9 (.string c.hi)).set 10 (.string c.val)).set 1 (.int .u64 now)).drew
    have HMn : Hid (Mod [b] X (((((((X.setCell ⟨b, 5, none⟩ (.bool true)).setCell ⟨b, 6, none⟩ (.int .i64 c.kind)).setCell ⟨b, 7, none⟩ (.int .u64 c.ts)).setCell ⟨b, 8, none⟩ (.string c.key)).setCell ⟨b, 9, none⟩ (.string c.hi)).setCell ⟨b, 10, none⟩ (.string c.val)).setCell ⟨b, 1, none⟩ (.int .u64 now)).drew) := ((((((((Mod.refl [b] X).setCell (p := ⟨b, 5, none⟩) (Or.inl (by simp)) _).setCell (p := ⟨b, 6, none⟩) (Or.inl (by simp)) _).setCell (p := ⟨b, 7, none⟩) (Or.inl (by simp)) _).setCell (p := ⟨b, 8, none⟩) (Or.inl (by simp)) _).setCell (p := ⟨b, 9, none⟩) (Or.inl (by simp)) _).setCell (p := ⟨b, 10, none⟩) (Or.inl (by simp)) _).setCell (p := ⟨b, 1, none⟩) (Or.inl (by simp)) _).drew
    go_cut [12] from 35 to 45 (fun _ wx => Hid (Blk wx b #[.int .u64 t.ts, .int .u64 now, .int .u64 t.need, .int .i64 t.state, .int .i64 ((t.calls : Int) + 1), .bool true, .int .i64 c.kind, .int .u64 c.ts, .string c.key, .string c.hi, .string c.val, v] 71) ∧ Hid (Mod [b] X wx) ∧ wx.cell? ⟨p, 0, none⟩ = some (.pointer (some ⟨b, 0, none⟩)) ∧ wx.cell? ⟨p + 1, 0, none⟩ = some (.int .i64 c.kind))
    case first =>
      go_region
      all_goals (go_wp2_with fail; go_meet)
      case rel =>
        refine ⟨?_, ?_, ?_, ?_⟩
        · exact HBn.out
        · exact HMn.out
        · go_simp
        · go_simp
    case rest =>
      obtain ⟨HB2, HM3, e0, e1⟩ := hcut
      have hbc := HB2.out.lt
      have z3 := HB2.out.cell 3
      have z4 := HB2.out.cell 4
      have u3 := HB2.out.free 3
      simp only [List.getElem?_toArray, List.getElem?_cons_zero, List.getElem?_cons_succ] at z3 z4
      have HoC := hid (HO1.out.mod HM3.out (fun k hk => by simp; intro h; exact hbM (h ▸ hk)))
      have HmC := hid (HM2.out.trans HM3.out (m := b :: M) (fun x hx _ => hx) (fun x hx _ => by simp at hx; simp [hx]))
      clear y1 y5 y6 y7 y8 y9 y10 x1 x5 x6 x7 x8 x9 x10 r0 r1 r2 r3 r4 p2 HB1 HO1 HM2 HM3
      by_cases h5 : c.kind = 5
      · rw [h5] at e1
        have HB3 := hid (HB2.out.set 3 (.int .i64 2))
        have HM4 := hid (HmC.out.setCell (p := ⟨b, 3, none⟩) (Or.inl (by simp)) (.int .i64 2))
        have HO3 := hid (HoC.out.mod ((Mod.refl [b] wc).setCell (p := ⟨b, 3, none⟩) (Or.inl (by simp)) (.int .i64 2)) (fun k hk => by simp; intro h; exact hbM (h ▸ hk)))
        have HcT5 := hid h5
        clear h5
        go_wp2
        go_ret2
        refine ⟨by rw [HcN.out, HcE.out]; rfl, b :: M, ?_, HM4.out, fun k hk => Or.inl hk⟩
        rw [HcT.out, if_pos HcT5.out]
        exact ⟨v, M, HB3.out, HO3.out, hbM, rfl⟩
      · have f5 : (c.kind == 5) = false := beq_eq_false_iff_ne.2 h5
        have HcT5 := hid h5
        clear h5
        go_wp2
        go_ret2
        refine ⟨by rw [HcN.out, HcE.out]; rfl, b :: M, ?_, HmC.out, fun k hk => Or.inl hk⟩
        rw [HcT.out, if_neg HcT5.out]
        exact ⟨v, M, HB2.out, HoC.out, hbM, rfl⟩
  · have HcT : Hid (callT t c now = t) := by show _ = _; unfold callT; rw [if_neg hE]
    have HcN : Hid (callN t c = 0) := by show _ = _; unfold callN; rw [if_neg hE]
    have hE2 : (callE t c == 0) = false := beq_eq_false_iff_ne.2 hE
    clear hE
    go_wp2
    go_ret2
    refine ⟨by rw [HcN.out]; rfl, L, by rw [HcT.out]; exact HT1.out, HM1.out.mono (by simp), fun k hk => Or.inl hk⟩
end Go.Proofs.Ytocfeeecgpklnaa
