/- Script: parts B7 BL. -/
import Derived.Test.YtibhkldnimfnkaaGreatDoorG23

/- Script, the reference: what serves at a line. -/
namespace Go.Proofs.YtibhkldnimfnkaaGreatDoor
section
set_option linter.unusedVariables false
set_option linter.unusedSimpArgs false
set_option linter.unusedSectionVars false
open Go.RowKit

/-- What a line of the reference comes to. -/
def LrG (o : Ln) (w : World) (e : Ending) (w' : World) : Prop := Mod [] w w' ∧ match o with
  | .blank => ∃ t, e = .returned (.tuple #[stF t, .int .i64 0, .bool false])
  | .bad n => ∃ t, e = .returned (.tuple #[stF t, .int .i64 (n : Int), .bool true])
  | .ok t => e = .returned (.tuple #[stF t, .int .i64 0, .bool true])
theorem stp_info : (Tryz.prog.info? 46).map (·.size) = some 8 := by kernel_rfl
set_option maxRecDepth 100000 in
theorem res_line {fn : Func} {p u v : Tmp} (h : fn.results = #[.cell p 46, .tmp u, .tmp v]) (tmps : Array Value) (w : World) (g : Nat) (t : St) (hp : tmps.getD p undef = .pointer (some ⟨g, 0, none⟩)) (hg : Blk w g (stA t) 46) :
    (results fn tmps).run Tryz.prog w = .ok (.tuple #[stF t, tmps.getD u undef, tmps.getD v undef]) w := by
  have c0 := hg.cell 0
  have c1 := hg.cell 1
  have c2 := hg.cell 2
  have c3 := hg.cell 3
  have c4 := hg.cell 4
  have c5 := hg.cell 5
  have c6 := hg.cell 6
  have c7 := hg.cell 7
  simp only [List.getElem?_toArray, List.getElem?_cons_zero, List.getElem?_cons_succ] at c0 c1 c2 c3 c4 c5 c6 c7
  rw [Array.getD_eq_getD_getElem?] at hp
  simp [results, h, go_sem, hp, c0, c1, c2, c3, c4, c5, c6, c7]
/-- The words of a line, as a value in some world. -/
def WdsV (g : Nat) (v : Value) (l : List Wd) (w : World) : Prop := ∃ a cap, v = .slice a l.length cap ∧ l.length ≤ cap ∧ cap ≤ 9223372036854775807 ∧ (l ≠ [] → a = some ⟨g, 0, none⟩ ∧ g < w.heap.size) ∧
  ∀ i x, l[i]? = some x → w.cell? ⟨g, i * 2, none⟩ = some (.string (str x.text)) ∧ w.cell? ⟨g, i * 2 + 1, none⟩ = some (.bool x.quoted)
theorem wdsV_of {w0 w : World} {v : Value} {l : List Wd} {L : List Nat} (ho : Own w 107 2 v l.length (flat wdC l) L) (hL : ∀ k ∈ L, w0.heap.size ≤ k) (h0 : w0.heap.size ≤ w.heap.size) : ∃ g, w0.heap.size ≤ g ∧ WdsV g v l w := by
  obtain ⟨a, cap, rfl, h1, h2, h3⟩ := ho.val
  have hb := ho.cells
  cases l with
  | nil => exact ⟨w.heap.size, h0, a, cap, rfl, h1, h2, by simp, by simp⟩
  | cons x l =>
    obtain ⟨g, rfl, rfl, hc⟩ := h3 (by simp)
    obtain ⟨c, T, hbk⟩ := hb g (by simp)
    refine ⟨g, hL g (by simp), _, cap, rfl, h1, h2, fun _ => ⟨rfl, hbk.lt⟩, fun i y hy => ?_⟩
    have hi := (List.getElem?_eq_some_iff.1 hy).1
    have := flat_wd _ i y hy
    rw [hc (i * 2) (by omega), hc (i * 2 + 1) (by omega)]
    exact this
theorem WdsV.at {g : Nat} {v : Value} {l : List Wd} {w : World} (h : WdsV g v l w) (i : Nat) (x : Wd) (hi : l[i]? = some x) : w.cell? ⟨g, i * 2, none⟩ = some (.string (str x.text)) ∧ w.cell? ⟨g, i * 2 + 1, none⟩ = some (.bool x.quoted) := by
  obtain ⟨a, cap, e, h1, h2, h3, h4⟩ := h
  exact h4 i x hi
theorem WdsV.mod {g : Nat} {v : Value} {l : List Wd} {L : List Nat} {w w' : World} (h : WdsV g v l w) (hm : Mod L w w') (h2 : g ∉ L) : WdsV g v l w' := by
  obtain ⟨a, cap, e, h3, h4, h5, h6⟩ := h
  refine ⟨a, cap, e, h3, h4, fun hn => ⟨(h5 hn).1, Nat.lt_of_lt_of_le (h5 hn).2 hm.size⟩, fun i x hx => ?_⟩
  obtain ⟨e1, e2⟩ := h6 i x hx
  have hlt : g < w.heap.size := by
    rcases Nat.lt_or_ge g w.heap.size with h | h
    · exact h
    · unfold World.cell? at e1
      simp [Array.getElem?_eq_none h] at e1
  have hbk := hm.block g hlt h2
  unfold World.cell? at e1 e2 ⊢
  simp only [hbk]
  exact ⟨e1, e2⟩

theorem flat_rr : ∀ (l : List Rw) (i : Nat) (x : Rw), l[i]? = some x → ∀ j, j < 12 → (flat rrC l)[i * 12 + j]? = (rrC x)[j]?
  | [], i, x, h => by simp at h
  | y :: l, i, x, h => by
    intro j hj
    have e : flat rrC (y :: l) = rrC y ++ flat rrC l := rfl
    rw [e]
    cases i with
    | zero =>
      simp at h
      subst h
      rw [Nat.zero_mul, Nat.zero_add, List.getElem?_append_left (by simpa [rrC] using hj)]
    | succ i =>
      simp at h
      rw [List.getElem?_append_right (by simp [rrC]; omega), ← flat_rr l i x h j hj]
      congr 1
      simp [rrC]
      omega
/-- The table's row, in memory. -/
theorem rr_cells {w : World} {b : Nat} (hb : Blk w b refA 109) {i : Nat} {r : Rw} (hr : rowsL[i]? = some r) :
    w.cell? ⟨b, i * 12, none⟩ = some (.string (str r.word)) ∧ w.cell? ⟨b, i * 12 + 1, none⟩ = some (.int .i64 r.kind) ∧ w.cell? ⟨b, i * 12 + 2, none⟩ = some (.int .i64 0) ∧ w.cell? ⟨b, i * 12 + 3, none⟩ = some (.int .i64 0) ∧ w.cell? ⟨b, i * 12 + 4, none⟩ = some (.int .i64 r.ck) ∧ w.cell? ⟨b, i * 12 + 5, none⟩ = some (.int .u64 0) ∧
    w.cell? ⟨b, i * 12 + 6, none⟩ = some (.string mt0) ∧ w.cell? ⟨b, i * 12 + 7, none⟩ = some (.string mt0) ∧ w.cell? ⟨b, i * 12 + 8, none⟩ = some (.string mt0) ∧ w.cell? ⟨b, i * 12 + 9, none⟩ = some (.string (str (folR r))) ∧ w.cell? ⟨b, i * 12 + 10, none⟩ = some (.int .u64 (loR r : Int)) ∧ w.cell? ⟨b, i * 12 + 11, none⟩ = some (.int .u64 (hiR r : Int)) := by
  have h : ∀ j, j < 12 → w.cell? ⟨b, i * 12 + j, none⟩ = (rrC r)[j]? := fun j hj => by
    rw [hb.cell]
    unfold refA
    rw [List.getElem?_toArray]
    exact flat_rr rowsL i r hr j hj
  exact ⟨h 0 (by decide), h 1 (by decide), h 2 (by decide), h 3 (by decide), h 4 (by decide), h 5 (by decide), h 6 (by decide), h 7 (by decide), h 8 (by decide), h 9 (by decide), h 10 (by decide), h 11 (by decide)⟩
theorem who_first {r : Rw} (h : r ∈ rowsL) {j : Nat} (hp : r.pl[j]? = some .who) : j = 0 := by
  have h1 : rowsL.all (fun r => (List.range r.pl.length).all fun j => decide (r.pl[j]? = some .who → j = 0)) = true := by decide
  have h2 := List.all_eq_true.1 (List.all_eq_true.1 h1 r h) j (List.mem_range.2 (List.getElem?_eq_some_iff.1 hp).1)
  exact of_decide_eq_true h2 hp
theorem fol_len (r : Rw) : (folR r).length = r.pl.length := by simp [folR]
theorem find_at {p : Rw → Bool} {j : Nat} {r : Rw} (h : rowsL[j]? = some r) : (rowsL.drop j).find? p = if p r then some r else (rowsL.drop (j + 1)).find? p := by
  rw [drop_at h, List.find?_cons]
  cases p r <;> rfl
end
end Go.Proofs.YtibhkldnimfnkaaGreatDoor

/- Script, the reference: a line. -/
namespace Go.Proofs.YtibhkldnimfnkaaGreatDoor
section
set_option linter.unusedVariables false
set_option linter.unusedSimpArgs false
set_option linter.unusedSectionVars false
open Go.RowKit

set_option maxRecDepth 100000 in
set_option maxHeartbeats 4000000 in
theorem line_r (s : Bs) (w : World) (hs : s.length < 4294967000) : Calls Tryz.prog 25 #[.string (str s)] w (LrG (lineL s) w) := by
  have HLEN := hid (wordsL_len s)
  rw [lineL_W]
  have HG : Hid (∀ W, Calls Tryz.prog 44 #[.string (str s)] W fun e w' => Mod [] W w' ∧ ∃ v L, e = .returned (.tuple #[v, .bool (wordsL s).2]) ∧ Own w' 107 2 v (wordsL s).1.length (flat wdC (wordsL s).1) L ∧ ∀ k ∈ L, W.heap.size ≤ k) :=
    fun W => words_r (str s) W (by rw [str_len]; exact hs)
  obtain ⟨l, is, hw⟩ : ∃ l is, wordsL s = (l, is) := ⟨_, _, rfl⟩
  rw [hw] at HLEN HG ⊢
  simp only at HLEN HG ⊢
  have HS := hid hs
  clear hw hs
  obtain ⟨ob, hob⟩ : ∃ ob, ob = w.heap.size := ⟨_, rfl⟩
  obtain ⟨W0, hW0⟩ : ∃ W0, W0 = w.alloc (.cells zeroC 46) := ⟨_, rfl⟩
  have hm0 : Mod [] w W0 := by rw [hW0]; exact (Mod.refl [] w).alloc _
  have hobk : Blk W0 ob (stA (st0 0 0)) 46 := by rw [hW0, hob]; exact Blk.new _ _ _
  have hz0 : W0.heap.size = ob + 1 := by rw [hW0, hob]; simp
  have HM0 := hid hm0
  have HOB := hid hobk
  have HW0 := hid hW0
  have Hob := hid hob
  have HZ0 := hid hz0
  clear hm0 hobk hW0 hob hz0
  go_enter Tryz.func25, Tryz.ntmps25
  go_wp2_with fail
  rw [← HW0.out, ← Hob.out]
  refine (HG.out W0).mono ?_
  rintro e w1 ⟨hm, v, L, rfl, ho, hL⟩
  obtain ⟨g, hg, hwd⟩ := wdsV_of ho hL hm.size
  have hgo : ob < g := by have := HZ0.out; omega
  have hob1 := hm.blk HOB.out (by simp)
  have hm1 : Mod [] w w1 := HM0.out.tr hm
  obtain ⟨la, lcap, rfl, hl1, hl2, hl3, hl4⟩ := hwd
  have HWD := hid (show WdsV g (.slice la l.length lcap) l w1 from ⟨la, lcap, rfl, hl1, hl2, hl3, hl4⟩)
  have HM1 := hid hm1
  have HOB1 := hid hob1
  have ol := hob1.lt
  have of0 := hob1.free
  clear hm hm1 hob1 hg HG HM0 HOB HW0 ho hL
  cases l with
  | nil =>
    cases is with
    | true =>
      obtain ⟨o0, o1, o2, o3, o4, o5, o6, o7⟩ := st_cells HOB1.out
      clear hl4
      go_wp2_with fail
      show bodyPost Tryz.prog Tryz.f25 _ _ _ (putSt w1 ob (st0 0 0))
      refine bodyPost_ret (v := .tuple #[stF (st0 0 0), .int .i64 0, .bool false]) ((res_line rfl _ _ ob (st0 0 0) rfl (putSt_blk _ HOB1.out)).trans rfl) rfl ⟨HM1.out.trans (putSt_mod (st0 0 0)) (fun _ h _ => h) (fun x hx hlt => by simp at hx; have := Hob.out; omega), _, rfl⟩
    | false =>
      clear hl4
      go_wp2_with fail
      refine (rows_r w1).mono ?_
      rintro e w2 ⟨rfl, hw2⟩
      have hm2 : Mod [] w1 w2 := by rw [hw2]; exact (Mod.refl [] w1).alloc _
      have HM2 := hid (HM1.out.tr hm2)
      have HOB2 := hid (hm2.blk HOB1.out (by simp))
      obtain ⟨o0, o1, o2, o3, o4, o5, o6, o7⟩ := st_cells HOB2.out
      have of2 := HOB2.out.free
      have ol2 := HOB2.out.lt
      clear hw2 hm2 of0 ol
      go_wp2_with fail
      go_loopg [8] 0 (fun g i wr => i = .int .i64 0 ∧ g = 0 ∧ wr = w2)
      · exact ⟨rfl, rfl, rfl⟩
      · obtain ⟨rfl, hg0, rfl⟩ := hrel
        go_wp2_with fail
        show bodyPost Tryz.prog Tryz.f25 _ _ _ (putSt wr ob (st0 0 0))
        refine bodyPost_ret (v := .tuple #[stF (st0 0 0), .int .i64 19, .bool true]) ((res_line rfl _ _ ob (st0 0 0) rfl (putSt_blk _ HOB2.out)).trans rfl) rfl ⟨HM2.out.trans (putSt_mod (st0 0 0)) (fun _ h _ => h) (fun x hx hlt => by simp at hx; have := Hob.out; omega), _, rfl⟩
  | cons x l =>
    obtain ⟨rfl, hgl⟩ := hl3 (by simp)
    obtain ⟨t, q⟩ := x
    have hn0 : 0 < l.length + 1 := by omega
    have hn1 : ¬ l.length + 1 = 0 := by omega
    have hn2 : (0 : Int) < (l.length : Int) + 1 := by omega
    have hn3 : ¬ (l.length : Int) + 1 = 0 := by omega
    simp only [List.length_cons] at hl1 HWD
    obtain ⟨rb, hrb⟩ : ∃ rb, rb = w1.heap.size := ⟨_, rfl⟩
    have hrr := rows_r w1
    rw [← hrb] at hrr hgl
    have HRR := hid hrr
    have Hrb := hid hrb
    clear hl3 hl4 hrr hrb of0 ol
    go_wp2_with fail
    refine HRR.out.mono ?_
    rintro e w2 ⟨rfl, hw2⟩
    have hm2 : Mod [] w1 w2 := by rw [hw2]; exact (Mod.refl [] w1).alloc _
    have HRB : Hid (Blk w2 rb refA 109) := by rw [hw2, Hrb.out]; exact Blk.new _ _ _
    have HM2 := hid (HM1.out.tr hm2)
    have HOB2 := hid (hm2.blk HOB1.out (by simp))
    have HWD2 := hid (HWD.out.mod hm2 (by simp))
    clear hw2 hm2 HRR HOB1 HWD HM1
    cases q with
    | true =>
      obtain ⟨x0, x1⟩ := HWD2.out.at 0 _ rfl
      obtain ⟨o0, o1, o2, o3, o4, o5, o6, o7⟩ := st_cells HOB2.out
      have of2 := HOB2.out.free
      have ol2 := HOB2.out.lt
      go_wp2_with fail
      go_loopg [8] 0 (fun g i wr => i = .int .i64 0 ∧ g = 0 ∧ wr = w2)
      · exact ⟨rfl, rfl, rfl⟩
      · obtain ⟨rfl, hg0, rfl⟩ := hrel
        go_wp2_with fail
        show bodyPost Tryz.prog Tryz.f25 _ _ _ (putSt wr ob (st0 0 0))
        refine bodyPost_ret (v := .tuple #[stF (st0 0 0), .int .i64 19, .bool true]) ((res_line rfl _ _ ob (st0 0 0) rfl (putSt_blk _ HOB2.out)).trans rfl) rfl ⟨HM2.out.trans (putSt_mod (st0 0 0)) (fun _ h _ => h) (fun x hx hlt => by simp at hx; have := Hob.out; omega), _, rfl⟩
    | false =>
      have HL0 : Hid (rowAt (⟨t, false⟩ :: l) = rowsL.find? (fun r => r.word == t)) := rfl
      go_wp2_with fail
      go_loopg [8] 18 (fun g i wr => ∃ j : Nat, i = .int .i64 (j : Int) ∧ j + g = 18 ∧ Hid ((rowsL.drop j).find? (fun r => r.word == t) = rowsL.find? (fun r => r.word == t)) ∧ Hid (Mod [] w2 wr))
      · exact ⟨0, rfl, by omega, hid rfl, hid (Mod.refl _ _)⟩
      · obtain ⟨j, rfl, hj, hF, hM⟩ := hrel
        have HWR := hid (HWD2.out.mod hM.out (by simp))
        obtain ⟨x0, x1⟩ := HWR.out.at 0 _ rfl
        simp only [Nat.zero_mul, Nat.zero_add] at x0 x1
        have gl := Nat.lt_of_lt_of_le (Nat.lt_of_lt_of_le (show g < rb from hgl) (Nat.le_of_lt HRB.out.lt)) hM.out.size
        by_cases hj18 : j < 18
        · obtain ⟨r, hr⟩ : ∃ r, rowsL[j]? = some r := ⟨_, List.getElem?_eq_getElem hj18⟩
          have hbk := hM.out.blk HRB.out (by simp)
          have bl := hbk.lt
          obtain ⟨r0, r1, r2, r3, r4, r5, r6, r7, r8, r9, r10, r11⟩ := rr_cells hbk hr
          have HF := hid (hF.out.symm.trans (find_at hr))
          have k0 : (j : Int) < 18 := by omega
          have k1 : (0 : Int) ≤ (j : Int) := by omega
          clear hbk hF
          by_cases hw : r.word = t
          · subst hw
            have HRA : Hid (rowAt (⟨r.word, false⟩ :: l) = some r) := by
              show _ = _
              have h := HF.out
              simp only [beq_self_eq_true, if_true] at h
              rw [HL0.out]
              exact h
            have HRM := hid (List.mem_of_getElem? hr)
            have hfl : (str (folR r)).size = r.pl.length := by rw [str_len, fol_len]
            have hpn : r.pl.length < 4 := by
              have := List.all_eq_true.1 rows_okW r HRM.out
              simp only [Bool.and_eq_true, decide_eq_true_eq] at this
              exact this.2
            have HR := hid hr
            clear HF hr
            go_wp2_with fail
            go_quiet (fail)
            obtain ⟨W1, hW1⟩ : ∃ W, W = wr.drewN nq := ⟨_, rfl⟩
            rw [← hW1]
            have hmW : Mod [] wr W1 := by rw [hW1]; exact (Mod.refl [] wr).drewN _
            have HMW := hid (hM.out.tr hmW)
            have HWR1 := hid (HWR.out.mod hmW (by simp))
            obtain ⟨y0, y1⟩ := HWR1.out.at 0 _ rfl
            simp only [Nat.zero_mul, Nat.zero_add] at y0 y1
            have gl1 := Nat.lt_of_lt_of_le gl hmW.size
            have hbk := HMW.out.blk HRB.out (by simp)
            have bl1 := hbk.lt
            obtain ⟨q0, q1, q2, q3, q4, q5, q6, q7, q8, q9, q10, q11⟩ := rr_cells hbk HR.out
            have HOB3 := hid (HMW.out.blk HOB2.out (by simp))
            clear hbk r0 r1 r2 r3 r4 r5 r6 r7 r8 r9 r10 r11 x0 x1 gl bl hW1 hmW HWR hM
            obtain ⟨W3, hW3⟩ : ∃ W, W = W1.alloc (.cells (stA (st0 r.kind r.ck)) 46) := ⟨_, rfl⟩
            obtain ⟨sb, hsb⟩ : ∃ b, b = W1.heap.size := ⟨_, rfl⟩
            have hm3 : Mod [] W1 W3 := by rw [hW3]; exact (Mod.refl [] W1).alloc _
            have hsb3 : Blk W3 sb (stA (st0 r.kind r.ck)) 46 := by rw [hW3, hsb]; exact Blk.new _ _ _
            have HW3 := hid hW3
            have Hsb := hid hsb
            have HM3 := hid hm3
            have HSB := hid hsb3
            clear hW3 hsb hm3 hsb3
            go_upto_region 10 with (fail)
            have hW : (W1.alloc (.cells #[.int .i64 r.kind, .int .i64 0, .int .i64 0, .int .i64 r.ck, .int .u64 0, .string mt0, .string mt0, .string mt0] 46)) = W3 := HW3.out.symm
            rw [hW, ← Hsb.out]
            clear hW
            have HOB4 := hid (HM3.out.blk HOB3.out (by simp))
            have HWD4 := hid (HWR1.out.mod HM3.out (by simp))
            have HRB4 := hid ((HMW.out.tr HM3.out).blk HRB.out (by simp))
            have HMB := hid ((HM2.out.tr HMW.out).tr HM3.out)
            have hosb : ob < sb := by rw [Hsb.out]; exact HOB3.out.lt
            have hrsb : rb < sb := by rw [Hsb.out]; exact bl1
            have hgsb : g < sb := by omega
            have HSZ : Hid (w.heap.size < sb) := by show _ < _; have := Hob.out; omega
            clear y0 y1 gl1 bl1 q0 q1 q2 q3 q4 q5 q6 q7 q8 q9 q10 q11 HOB3 HWR1 HMW HM3 HW3 Hsb HM2 HOB2
            obtain ⟨o0, o1, o2, o3, o4, o5, o6, o7⟩ := st_cells HOB4.out
            obtain ⟨s0, s1, s2, s3, s4, s5, s6, s7⟩ := st_cells HSB.out
            have of4 := HOB4.out.free
            have ol4 := HOB4.out.lt
            have sl4 := HSB.out.lt
            cases is with
            | false =>
              have HL : Hid (lineW (⟨r.word, false⟩ :: l) false = .bad 4) := by
                show _ = _
                unfold lineW
                rw [HRA.out]
                rfl
              go_wp2_with fail
              show bodyPost Tryz.prog Tryz.f25 _ _ _ (putSt W3 ob (st0 r.kind r.ck))
              refine bodyPost_ret (v := .tuple #[stF (st0 r.kind r.ck), .int .i64 4, .bool true]) ((res_line rfl _ _ ob (st0 r.kind r.ck) rfl (putSt_blk _ HOB4.out)).trans rfl) rfl ⟨HMB.out.trans (putSt_mod (st0 r.kind r.ck)) (fun _ h _ => h) (fun x hx hlt => by simp at hx; have := Hob.out; omega), ?_⟩
              rw [HL.out]
              exact ⟨_, rfl⟩
            | true =>
              obtain ⟨q0, q1, q2, q3, q4, q5, q6, q7, q8, q9, q10, q11⟩ := rr_cells HRB4.out HR.out
              have rl4 := HRB4.out.lt
              by_cases hlen : l.length = r.pl.length
              · have hbq : ((l.length : Int) + 1 == (r.pl.length : Int) + 1) = true := by simp [hlen]
                have hll : (l.length : Int) = (r.pl.length : Int) := by omega
                have HLEN2 := hid hlen
                have HL : Hid (lineW (⟨r.word, false⟩ :: l) true = match readAll r.pl l (st0 r.kind r.ck) with | none => .bad 4 | some t => .ok t) := by
                  show _ = _
                  unfold lineW
                  rw [HRA.out]
                  simp [hlen]
                  cases readAll r.pl l (st0 r.kind r.ck) <;> rfl
                clear hlen
                go_wp2_with fail
                go_loopg [10] r.pl.length (fun g' k wr => ∃ (q : Nat) (sq : St), k = .int .i64 ((q : Int) + 1) ∧ q + g' = r.pl.length ∧ Hid (readAll (r.pl.drop q) (l.drop q) sq = readAll r.pl l (st0 r.kind r.ck)) ∧ Hid (q = 0 → sq.a = 0) ∧ Hid (Blk wr sb (stA sq) 46) ∧ Hid (Mod [sb] W3 wr))
                · exact ⟨0, st0 r.kind r.ck, rfl, by omega, hid rfl, hid (fun _ => rfl), HSB, hid (Mod.refl _ _)⟩
                · obtain ⟨q, sq, rfl, hqg, hA, hZ, hB, hM5⟩ := hrel
                  have HOBR := hid (hM5.out.blk HOB4.out (by simp; omega))
                  have HWDR := hid (HWD4.out.mod hM5.out (by simp; omega))
                  have HRBR := hid (hM5.out.blk HRB4.out (by simp; omega))
                  clear HSB o0 o1 o2 o3 o4 o5 o6 o7 s0 s1 s2 s3 s4 s5 s6 s7 of4 ol4 sl4 q0 q1 q2 q3 q4 q5 q6 q7 q8 q9 q10 q11 rl4 hbq
                  by_cases hlt : q < r.pl.length
                  · obtain ⟨p, hp⟩ : ∃ p, r.pl[q]? = some p := ⟨_, List.getElem?_eq_getElem hlt⟩
                    obtain ⟨x, hx⟩ : ∃ x, l[q]? = some x := ⟨_, List.getElem?_eq_getElem (by have := HLEN2.out; omega)⟩
                    have HA1 : Hid (readAll (p :: r.pl.drop (q + 1)) (x :: l.drop (q + 1)) sq = readAll r.pl l (st0 r.kind r.ck)) := by
                      show _ = _
                      rw [← hA.out, drop_at hp, drop_at hx]
                    have HXL : Hid (x.text.length < 4294967000) := Nat.lt_of_le_of_lt (HLEN.out x (by simp [List.mem_of_getElem? hx])) HS.out
                    have HWHO : Hid (p = .who → sq.a = 0) := fun e => hZ.out (who_first HRM.out (by rw [← e]; exact hp))
                    have HX := hid hx
                    have HP := hid hp
                    obtain ⟨d, hd⟩ : ∃ d, d = (readP p x sq).isSome := ⟨_, rfl⟩
                    have Hd := hid hd
                    have hq0 : (0 : Int) ≤ (q : Int) := by omega
                    have hq1 : (q : Int) + 1 < (l.length : Int) + 1 := by omega
                    have hq3 : q + 1 < l.length + 1 := by omega
                    clear hp hx hA hd
                    go_wp2_with fail
                    refine wp_region_stepsJ (by rfl) (by kernel_rfl) (fun W => Mod [sb] wr W)
                      (fun i v W => match i with
                        | 0 => v = .slice (some ⟨rb, 0, none⟩) 18 18
                        | 1 => v = .int .i64 (j : Int)
                        | 2 => v = .pointer (some ⟨rb, j * 12, none⟩)
                        | 3 => v = rrV r
                        | 4 => v = .int .i64 ((q : Int) + 1)
                        | 5 => v = .int .i64 (q : Int)
                        | 6 => v = .slice (some ⟨g, 0, none⟩) (l.length + 1) lcap
                        | 7 => v = .int .i64 ((q : Int) + 1)
                        | 8 => v = .pointer (some ⟨g, (q + 1) * 2, none⟩)
                        | 9 => v = wdV x
                        | 10 => v = .bool d ∧ ∃ t', Blk W sb (stA t') 46 ∧ ∀ t2, readP p x sq = some t2 → t' = t2
                        | 11 => v = .bool (!d)
                        | _ => True)
                      (fun listed W => listed.getD 10 false = false → Blk W sb (stA sq) 46) ?h0 ?hJ ?steps ?fin
                    case h0 => exact (Mod.refl [sb] wr).drew
                    case hJ => exact fun _ => hB.out.drew
                    case steps =>
                      have J1 : ∀ (listed : Array Bool) (i : Nat) (W W' : World), i ≠ 10 → Mod [] W W' → (listed.getD 10 false = false → Blk W sb (stA sq) 46) → ((listed.setIfInBounds i true).getD 10 false = false → Blk W' sb (stA sq) 46) := by
                        intro listed i W W' h10 hm h1 h2
                        rw [getD_set_ne false h10] at h2
                        exact hm.blk (h1 h2) (by simp)
                      refine ⟨?s0, ?s1, ?s2, ?s3, ?s4, ?s5, ?s6, ?s7, ?s8, ?s9, ?s10, ?s11, trivial⟩
                      case s0 =>
                        intro listed a W hR hJ hsz hun hall K hK
                        have e1 : a.tmps[7]?.getD undef = _ := hR.old' 7 (by rfl)
                        simp only [List.getElem?_toArray, List.getElem?_cons_zero, List.getElem?_cons_succ, Option.getD_some] at e1
                        exact Oper.wp_value (.slice (some ⟨rb, 0, none⟩) 18 18) (by simp [go_sem, e1]) (hK _ _ hR.world rfl (fun _ _ _ h => h) (J1 _ 0 _ _ (by decide) (Mod.refl _ _) hJ))
                      case s1 =>
                        intro listed a W hR hJ hsz hun hall K hK
                        have e1 : a.tmps[8]?.getD undef = _ := hR.old' 8 (by rfl)
                        simp only [List.getElem?_toArray, List.getElem?_cons_zero, List.getElem?_cons_succ, Option.getD_some] at e1
                        exact Oper.wp_value (.int .i64 (j : Int)) (by simp [go_sem, e1]) (hK _ _ hR.world rfl (fun _ _ _ h => h) (J1 _ 1 _ _ (by decide) (Mod.refl _ _) hJ))
                      case s2 =>
                        intro listed a W hR hJ hsz hun hall K hK
                        have e1 : a.tmps[78]?.getD undef = .slice (some ⟨rb, 0, none⟩) 18 18 := hR.val 0 rfl rfl (hall ⟨0, .data⟩ (by simp) rfl)
                        have e2 : a.tmps[79]?.getD undef = .int .i64 (j : Int) := hR.val 1 rfl rfl (hall ⟨1, .data⟩ (by simp) rfl)
                        exact Oper.wp_value (.pointer (some ⟨rb, j * 12, none⟩)) (by simp [go_sem, e1, e2, hj18]; intro h; omega) (hK _ _ hR.world rfl (fun _ _ _ h => h) (J1 _ 2 _ _ (by decide) (Mod.refl _ _) hJ))
                      case s3 =>
                        intro listed a W hR hJ hsz hun hall K hK
                        have e1 : a.tmps[80]?.getD undef = .pointer (some ⟨rb, j * 12, none⟩) := hR.val 2 rfl rfl (hall ⟨2, .data⟩ (by simp) rfl)
                        have hmw : Mod [sb] wr W := hR.world
                        obtain ⟨c0, c1, c2, c3, c4, c5, c6, c7, c8, c9, c10, c11⟩ := rr_cells (hmw.blk HRBR.out (by simp; omega)) HR.out
                        exact Oper.wp_value (rrV r) (by simp [go_sem, e1, c0, c1, c2, c3, c4, c5, c6, c7, c8, c9, c10, c11]) (hK _ _ hR.world rfl (fun _ _ _ h => h) (J1 _ 3 _ _ (by decide) (Mod.refl _ _) hJ))
                      case s4 =>
                        intro listed a W hR hJ hsz hun hall K hK
                        have e1 : a.tmps[10]?.getD undef = _ := hR.old' 10 (by rfl)
                        simp only [List.getElem?_toArray, List.getElem?_cons_zero, List.getElem?_cons_succ, Option.getD_some] at e1
                        exact Oper.wp_value (.int .i64 ((q : Int) + 1)) (by simp [go_sem, e1]) (hK _ _ hR.world rfl (fun _ _ _ h => h) (J1 _ 4 _ _ (by decide) (Mod.refl _ _) hJ))
                      case s5 =>
                        intro listed a W hR hJ hsz hun hall K hK
                        have e1 : a.tmps[82]?.getD undef = .int .i64 ((q : Int) + 1) := hR.val 4 rfl rfl (hall ⟨4, .data⟩ (by simp) rfl)
                        have hw : IntKind.i64.wrap ((q : Int) + 1 - 1) = (q : Int) := by rw [IntKind.wrap_i64]; omega
                        exact Oper.wp_value (.int .i64 (q : Int)) (by simp [go_sem, e1]; simpa using hw) (hK _ _ hR.world rfl (fun _ _ _ h => h) (J1 _ 5 _ _ (by decide) (Mod.refl _ _) hJ))
                      case s6 =>
                        intro listed a W hR hJ hsz hun hall K hK
                        have e1 : a.tmps[5]?.getD undef = _ := hR.old' 5 (by rfl)
                        simp only [List.getElem?_toArray, List.getElem?_cons_zero, List.getElem?_cons_succ, Option.getD_some] at e1
                        exact Oper.wp_value (.slice (some ⟨g, 0, none⟩) (l.length + 1) lcap) (by simp [go_sem, e1]) (hK _ _ hR.world rfl (fun _ _ _ h => h) (J1 _ 6 _ _ (by decide) (Mod.refl _ _) hJ))
                      case s7 =>
                        intro listed a W hR hJ hsz hun hall K hK
                        have e1 : a.tmps[10]?.getD undef = _ := hR.old' 10 (by rfl)
                        simp only [List.getElem?_toArray, List.getElem?_cons_zero, List.getElem?_cons_succ, Option.getD_some] at e1
                        exact Oper.wp_value (.int .i64 ((q : Int) + 1)) (by simp [go_sem, e1]) (hK _ _ hR.world rfl (fun _ _ _ h => h) (J1 _ 7 _ _ (by decide) (Mod.refl _ _) hJ))
                      case s8 =>
                        intro listed a W hR hJ hsz hun hall K hK
                        have e1 : a.tmps[84]?.getD undef = .slice (some ⟨g, 0, none⟩) (l.length + 1) lcap := hR.val 6 rfl rfl (hall ⟨6, .data⟩ (by simp) rfl)
                        have e2 : a.tmps[85]?.getD undef = .int .i64 ((q : Int) + 1) := hR.val 7 rfl rfl (hall ⟨7, .data⟩ (by simp) rfl)
                        have g1 : (0 : Int) ≤ (q : Int) + 1 := by omega
                        have g2 : ((q : Int) + 1).toNat = q + 1 := by omega
                        exact Oper.wp_value (.pointer (some ⟨g, (q + 1) * 2, none⟩)) (by simp [go_sem, e1, e2, g1, g2, hq3]; intro h; omega) (hK _ _ hR.world rfl (fun _ _ _ h => h) (J1 _ 8 _ _ (by decide) (Mod.refl _ _) hJ))
                      case s9 =>
                        intro listed a W hR hJ hsz hun hall K hK
                        have e1 : a.tmps[86]?.getD undef = .pointer (some ⟨g, (q + 1) * 2, none⟩) := hR.val 8 rfl rfl (hall ⟨8, .data⟩ (by simp) rfl)
                        have hmw : Mod [sb] wr W := hR.world
                        obtain ⟨c0, c1⟩ := (HWDR.out.mod hmw (by simp; omega)).at (q + 1) x (by simpa using HX.out)
                        exact Oper.wp_value (wdV x) (by simp [go_sem, e1, c0, c1]) (hK _ _ hR.world rfl (fun _ _ _ h => h) (J1 _ 9 _ _ (by decide) (Mod.refl _ _) hJ))
                      case s10 =>
                        intro listed a W hR hJ hsz hun hall K hK
                        have e0 : a.tmps[9]?.getD undef = _ := hR.old' 9 (by rfl)
                        simp only [List.getElem?_toArray, List.getElem?_cons_zero, List.getElem?_cons_succ, Option.getD_some] at e0
                        have e1 : a.tmps[81]?.getD undef = rrV r := hR.val 3 rfl rfl (hall ⟨3, .data⟩ (by simp) rfl)
                        have e2 : a.tmps[83]?.getD undef = .int .i64 (q : Int) := hR.val 5 rfl rfl (hall ⟨5, .data⟩ (by simp) rfl)
                        have e3 : a.tmps[87]?.getD undef = wdV x := hR.val 9 rfl rfl (hall ⟨9, .data⟩ (by simp) rfl)
                        have hu : listed.getD 10 false = false := by
                          rw [Array.getD_eq_getD_getElem?] at hun ⊢
                          have h8 : 10 < listed.size := by rw [hsz]; decide
                          rw [Array.getElem?_eq_getElem h8] at hun ⊢
                          simpa using hun
                        have hmw : Mod [sb] wr W := hR.world
                        have hbb : Blk W sb (stA sq) 46 := hJ hu
                        refine Oper.wp_call 46 #[.pointer (some ⟨sb, 0, none⟩), rrV r, .int .i64 (q : Int), wdV x] (by simp [go_sem, e0, e1, e2, e3]) (fill_r r q p HRM.out HP.out x sq sb W hbb HXL.out HWHO.out) ?_
                        rintro e W2 ⟨hm, rfl, hbw⟩
                        exact hK _ _ (hmw.trans hm (fun _ h _ => h) (fun _ h _ => h)) ⟨Hd.out ▸ rfl, hbw⟩ (fun j v hj h => match j, hj, h with
                          | 0, _, h | 1, _, h | 2, _, h | 3, _, h | 4, _, h | 5, _, h | 6, _, h | 7, _, h | 8, _, h | 9, _, h => h
                          | 10, hj, _ => absurd rfl hj
                          | 11, _, h => h
                          | _ + 12, _, h => h) (fun h => by
                            exfalso
                            have h8 : 10 < listed.size := by rw [hsz]; decide
                            rw [Array.getD_eq_getD_getElem?, Array.getElem?_setIfInBounds_self_of_lt h8] at h
                            cases h)
                      case s11 =>
                        intro listed a W hR hJ hsz hun hall K hK
                        have e1 : a.tmps[88]?.getD undef = .bool d ∧ _ := hR.val 10 rfl rfl (hall ⟨10, .data⟩ (by simp) rfl)
                        exact Oper.wp_value (.bool (!d)) (by simp [go_sem, e1.1]) (hK _ _ hR.world rfl (fun _ _ _ h => h) (J1 _ 11 _ _ (by decide) (Mod.refl _ _) hJ))
                    case fin =>
                      intro listed a W hR hl
                      have e89 : a.tmps.getD 89 undef = .bool (!d) := by rw [Array.getD_eq_getD_getElem?]; exact hR.val 11 rfl rfl (hl 11 (by decide))
                      obtain ⟨_, t', hbt, htt⟩ : _ ∧ ∃ t', Blk W sb (stA t') 46 ∧ ∀ t2, readP p x sq = some t2 → t' = t2 := hR.got 10 _ rfl (hl 10 (by decide))
                      have hmW : Mod [sb] wr W := hR.world
                      have HMW5 := hid (hM5.out.trans hmW (fun _ h _ => h) (fun _ h _ => h) (m := [sb]))
                      have HOBW := hid (hmW.blk HOBR.out (by simp; omega))
                      have HBT := hid hbt
                      have HTT := hid htt
                      have hfr := hR.frame
                      clear hR hl hbt htt hmW
                      simp only [List.filterMap_cons, List.filterMap_nil, List.foldl_cons, List.foldl_nil, List.setIfInBounds_toArray, List.set_cons_succ, List.set_cons_zero, e89] at hfr
                      generalize a.tmps.getD 78 undef = v78 at hfr
                      generalize a.tmps.getD 79 undef = v79 at hfr
                      generalize a.tmps.getD 80 undef = v80 at hfr
                      generalize a.tmps.getD 81 undef = v81 at hfr
                      generalize a.tmps.getD 82 undef = v82 at hfr
                      generalize a.tmps.getD 83 undef = v83 at hfr
                      generalize a.tmps.getD 84 undef = v84 at hfr
                      generalize a.tmps.getD 85 undef = v85 at hfr
                      generalize a.tmps.getD 86 undef = v86 at hfr
                      generalize a.tmps.getD 87 undef = v87 at hfr
                      generalize a.tmps.getD 88 undef = v88 at hfr
                      rw [hfr]
                      clear hfr e89
                      cases hrd : readP p x sq with
                      | none =>
                        obtain rfl : d = false := by rw [Hd.out, hrd]; rfl
                        have HL2 : Hid (lineW (⟨r.word, false⟩ :: l) true = .bad 4) := by
                          show _ = _
                          rw [HL.out, ← HA1.out]
                          simp only [readAll]
                          rw [hrd]
                        obtain ⟨o0, o1, o2, o3, o4, o5, o6, o7⟩ := st_cells HOBW.out
                        obtain ⟨s0, s1, s2, s3, s4, s5, s6, s7⟩ := st_cells HBT.out
                        have of4 := HOBW.out.free
                        have ol4 := HOBW.out.lt
                        have sl4 := HBT.out.lt
                        clear hrd HL
                        go_wp2_with fail
                        show bodyPost Tryz.prog Tryz.f25 _ _ _ (putSt W ob t')
                        refine bodyPost_ret (v := .tuple #[stF t', .int .i64 4, .bool true]) ((res_line rfl _ _ ob t' rfl (putSt_blk _ HOBW.out)).trans rfl) rfl ⟨(HMB.out.trans HMW5.out (fun _ h _ => h) (fun x hx hlt => by simp at hx; have := HSZ.out; omega)).trans (putSt_mod t') (fun _ h _ => h) (fun x hx hlt => by simp at hx; have := Hob.out; omega), ?_⟩
                        rw [HL2.out]
                        exact ⟨_, rfl⟩
                      | some t2 =>
                        obtain rfl : d = true := by rw [Hd.out, hrd]; rfl
                        obtain rfl := HTT.out t2 hrd
                        have HA2 : Hid (readAll (r.pl.drop (q + 1)) (l.drop (q + 1)) t' = readAll r.pl l (st0 r.kind r.ck)) := by
                          show _ = _
                          rw [← HA1.out]
                          simp only [readAll]
                          rw [hrd]
                        clear hrd
                        go_wp2
                        go_roundg (gk - 1)
                        case measure => omega
                        case rel => exact ⟨q + 1, t', by go_num, by omega, HA2, hid (fun h => by omega), HBT, HMW5⟩
                  · obtain rfl : q = r.pl.length := by omega
                    have hA1 : readAll r.pl l (st0 r.kind r.ck) = some sq := by
                      rw [← hA.out, List.drop_length, ← HLEN2.out, List.drop_length]
                      rfl
                    have HL2 : Hid (lineW (⟨r.word, false⟩ :: l) true = .ok sq) := by
                      show _ = _
                      rw [HL.out, hA1]
                    obtain ⟨o0, o1, o2, o3, o4, o5, o6, o7⟩ := st_cells HOBR.out
                    obtain ⟨s0, s1, s2, s3, s4, s5, s6, s7⟩ := st_cells hB.out
                    have of4 := HOBR.out.free
                    have ol4 := HOBR.out.lt
                    have sl4 := hB.out.lt
                    clear hA1 hA HL
                    go_wp2_with fail
                    show bodyPost Tryz.prog Tryz.f25 _ _ _ (putSt wr ob sq)
                    refine bodyPost_ret (v := .tuple #[stF sq, .int .i64 0, .bool true]) ((res_line rfl _ _ ob sq rfl (putSt_blk _ HOBR.out)).trans rfl) rfl ⟨(HMB.out.trans hM5.out (fun _ h _ => h) (fun x hx hlt => by simp at hx; have := HSZ.out; omega)).trans (putSt_mod sq) (fun _ h _ => h) (fun x hx hlt => by simp at hx; have := Hob.out; omega), ?_⟩
                    rw [HL2.out]
              · have HL : Hid (lineW (⟨r.word, false⟩ :: l) true = .bad 4) := by
                  show _ = _
                  unfold lineW
                  rw [HRA.out]
                  simp [hlen]
                have hbq : ((l.length : Int) + 1 == (r.pl.length : Int) + 1) = false := by simp; omega
                have hbn : ¬ ((l.length : Int) + 1 = (r.pl.length : Int) + 1) := by omega
                clear hlen
                go_wp2_with fail
                show bodyPost Tryz.prog Tryz.f25 _ _ _ (putSt W3 ob (st0 r.kind r.ck))
                refine bodyPost_ret (v := .tuple #[stF (st0 r.kind r.ck), .int .i64 4, .bool true]) ((res_line rfl _ _ ob (st0 r.kind r.ck) rfl (putSt_blk _ HOB4.out)).trans rfl) rfl ⟨HMB.out.trans (putSt_mod (st0 r.kind r.ck)) (fun _ h _ => h) (fun x hx hlt => by simp at hx; have := Hob.out; omega), ?_⟩
                rw [HL.out]
                exact ⟨_, rfl⟩
          · have hne : (r.word == t) = false := beq_eq_false_iff_ne.2 hw
            have HF2 : Hid ((rowsL.drop (j + 1)).find? (fun r => r.word == t) = rowsL.find? (fun r => r.word == t)) := by
              have h := HF.out
              simp only [hne] at h
              exact h.symm
            clear HF hr hw
            go_wp2_with fail
            go_quiet (fail)
            go_wp2_with fail
            go_roundg (gk - 1)
            case measure => omega
            case rel => exact ⟨j + 1, by go_num, by omega, HF2, hM.out.drewN _⟩
        · have k0 : ¬ (j : Int) < 18 := by omega
          have HL : Hid (rowAt (⟨t, false⟩ :: l) = none) := by
            show _ = _
            rw [HL0.out, ← hF.out, List.drop_eq_nil_of_le (show rowsL.length ≤ j by show 18 ≤ j; omega)]
            rfl
          have HOBR := hid (hM.out.blk HOB2.out (by simp))
          obtain ⟨o0, o1, o2, o3, o4, o5, o6, o7⟩ := st_cells HOBR.out
          have of2 := HOBR.out.free
          have ol2 := HOBR.out.lt
          have HM3 := hid (HM2.out.tr hM.out)
          clear hF
          go_wp2_with fail
          show bodyPost Tryz.prog Tryz.f25 _ _ _ (putSt wr ob (st0 0 0))
          refine bodyPost_ret (v := .tuple #[stF (st0 0 0), .int .i64 19, .bool true]) ((res_line rfl _ _ ob (st0 0 0) rfl (putSt_blk _ HOBR.out)).trans rfl) rfl ⟨HM3.out.trans (putSt_mod (st0 0 0)) (fun _ h _ => h) (fun x hx hlt => by simp at hx; have := Hob.out; omega), ?_⟩
          unfold lineW
          rw [HL.out]
          exact ⟨_, rfl⟩
end
end Go.Proofs.YtibhkldnimfnkaaGreatDoor
