/- The document's Wrote. -/
import Derived.Test.YtocfeeecgpklnaaTXT
namespace Go.Proofs.Ytocfeeecgpklnaa
set_option linter.unusedVariables false
set_option linter.unusedSimpArgs false
set_option linter.unusedSectionVars false
open Go.RowKit Go.Shelf

/-- A block of one record is a list of one. -/
theorem one_lx {w : World} {g : Nat} {x : Rc} {T : TypeId} (h : Blk w g (rcA x) T) : Lx 4 rcC w (.slice (some ⟨g, 0, none⟩) 1 1) [x] := by
  refine ⟨_, 1, rfl, Or.inr ⟨g, 0, rfl, fun i y hy j v hj => ?_⟩, by simp⟩
  cases i with
  | zero =>
    simp at hy; subst hy
    rw [show 0 + 0 * 4 + j = j by omega, h.cell, ← hj]
    simp [rcC]
  | succ i => simp at hy

theorem Mod.fresh {w w1 w2 : World} {L : List Nat} (h : Mod [] w w1) (h2 : Mod L w1 w2) (hf : ∀ y ∈ L, w.heap.size ≤ y) : Mod [] w w2 :=
  h.trans h2 (by simp) (by intro x hx hlt; exact absurd (hf x hx) (by omega))
theorem ap_own {wr Z : World} {acc : List Rc} {u : Value} {La : List Nat} (hO : Own wr 32 4 u acc.length (flat rcC acc) La) (hm : Mod [] wr Z) (x : Rc) : Own (Z.alloc (.cells (rcA x) 32)) 32 4 u acc.length (flat rcC acc) La :=
  hO.mod (hm.alloc _) (by simp)
theorem ap_one (Z : World) (x : Rc) : Lx 4 rcC (Z.alloc (.cells (rcA x) 32)) (.slice (some ⟨Z.heap.size, 0, none⟩) 1 1) [x] := one_lx (Blk.new Z (rcA x) 32)
theorem ap_end {w : World} {acc : List Rc} {x : Rc} {v : Value} {L : List Nat} (h : Own w 32 4 v (acc.length + [x].length) (flat rcC acc ++ flat rcC [x]) L) : Own w 32 4 v (acc ++ [x]).length (flat rcC (acc ++ [x])) L := by
  rw [List.length_append]
  simpa [flat] using h

set_option maxRecDepth 100000 in
set_option maxHeartbeats 4000000 in
theorem rwrote_c (w : World) (b : Nat) (t : Tx) (r : Rc) (L : List Nat) (h : rxR b t w L) (hs : Kr t.ops) (hl : t.ops.length ≤ 1000) :
    Calls Try.prog 52 #[.pointer (some ⟨b, 0, none⟩), rcV r] w (Says w L (.int .i64 (wroteE t r)) (rxR b (wroteT t r))) := by
  have hM := (Mod.refl [] w).alloc (.cells (rcA r) 32)
  have hQ := Blk.new w (rcA r) 32
  have hT := Keep.mod h hM (by simp)
  have HT := hid hT
  have HM := hid hM
  have HQ := hid hQ
  have Hs := hid hs
  have hLl := hid (Keep.lt h)
  clear h hT hM hQ hs
  go_enter Try.func52, Try.ntmps52
  go_upto_region 1 with (fail)
  generalize w.alloc (.cells (rcA r) 32) = W at *
  generalize hp : w.heap.size = q at *
  have Hp := hid hp
  clear hp
  have fin : ∀ X, Mod [] W X → ∀ z : Int, wroteE t r = z → z ≠ 0 → Says w L (.int .i64 (wroteE t r)) (rxR b (wroteT t r)) (.returned (.int .i64 z)) X := by
    intro X hX z hz hz0
    have h1 : wroteT t r = t := by unfold wroteT; rw [if_neg (by rw [hz]; exact hz0)]
    exact ⟨by rw [hz], L, by rw [h1]; exact Keep.mod HT.out hX (by simp), (HM.out.tr hX).mono (by simp), fun k hk => Or.inl hk⟩
  have HF := hid fin
  clear fin
  rcases hov : overB t with _ | _
  · go_upto_region 3 with (go_at_call 39; refine (over_c W b t L HT.out).mono ?_; rintro e w' ⟨rfl, rfl⟩; rw [hov])
    have q0 : W.cell? ⟨q, 0, none⟩ = some (.string r.key) := HQ.out.cell 0
    have q1 : W.cell? ⟨q, 1, none⟩ = some (.int .u64 r.ln) := HQ.out.cell 1
    have q2 : W.cell? ⟨q, 2, none⟩ = some (.bool r.dl) := HQ.out.cell 2
    have q3 : W.cell? ⟨q, 3, none⟩ = some (.string r.vl) := HQ.out.cell 3
    have hql := HQ.out.lt
    go_upto_region 4 with (go_at_call 65; refine (rmay_c W r).mono ?_; rintro e w1 ⟨rfl, hm⟩; have Hm1 := hid hm; clear hm)
    by_cases hy : mayE r = 0
    · have hE : Hid (wroteE t r = roomE t.ops r.key) := by show _ = _; unfold wroteE; rw [hov, hy]; simp
      rw [hy]
      clear q0 q1 q2 q3 hql hy
      have HQ1 := hid (Hm1.out.blk HQ.out (by simp))
      have HT1 := hid (Keep.mod HT.out Hm1.out (by simp))
      have q0 : w1.cell? ⟨q, 0, none⟩ = some (.string r.key) := HQ1.out.cell 0
      have q1 : w1.cell? ⟨q, 1, none⟩ = some (.int .u64 r.ln) := HQ1.out.cell 1
      have f1 := HQ1.out.free 1
      have hql := HQ1.out.lt
      rcases hrm : roomB t.ops r.key with _ | _
      · have hE2 : Hid (wroteE t r = 11) := by show _ = _; rw [hE.out]; unfold roomE; rw [hrm]; rfl
        go_wp2_with (go_at_call 41; refine (rroom_c w1 b t r.key L HT1.out hl).mono ?_; rintro e w' ⟨rfl, rfl⟩; rw [hrm])
        go_ret
        exact HF.out _ Hm1.out 11 hE2.out (by decide)
      · have hE2 : Hid (wroteE t r = 0) := by show _ = _; rw [hE.out]; unfold roomE; rw [hrm]; rfl
        have HcT : Hid (wroteT t r = { t with ops := putO t.ops { r with ln := 0 } }) := by show _ = _; unfold wroteT; rw [if_pos hE2.out]
        go_upto_region 8 with (go_at_call 41; refine (rroom_c w1 b t r.key L HT1.out hl).mono ?_; rintro e w' ⟨rfl, rfl⟩; rw [hrm])
        have hS : Hid (Blk (w1.setCell ⟨q, 1, none⟩ (.int .u64 0)) q (rcA { r with ln := 0 }) 32) := HQ1.out.set 1 _
        have hMS := (Mod.refl [q] w1).setCell (p := ⟨q, 1, none⟩) (by simp) (.int .u64 0)
        have HT2 := hid (Keep.mod HT1.out hMS (fun k hk => by simp; have := hLl.out k hk; omega))
        have HM2 := hid ((HM.out.tr Hm1.out).trans hMS (m := []) (by simp) (by intro x hx hlt; simp at hx; have := Hp.out; omega))
        go_upto_region 12 with (fail)
        clear q0 q1 f1 hql hMS HQ1 HT1 Hm1 HF HQ HT HM hov hrm hE
        generalize w1.setCell ⟨q, 1, none⟩ (.int .u64 0) = w2 at *
        have HTX := HT2.out
        obtain ⟨v, M, hb, ho, hbM, rfl⟩ := HTX
        have b10 : w2.cell? ⟨b, 10, none⟩ = some v := hb.cell 10
        have hbl := hb.lt
        have hqL : ∀ k ∈ b :: M, k < q := hLl.out
        have HX := hid (Own.lx rc_lays ho)
        obtain ⟨a, cap, rfl, _⟩ := ho.val
        have HB := hid hb
        clear hb ho
        obtain ⟨rr, hrr⟩ : ∃ rr, rr = { r with ln := 0 } := ⟨_, rfl⟩
        rw [← hrr] at hS HcT
        have hk1 : rr.key = r.key := by rw [hrr]
        clear hrr
        go_wp2
        go_loopg [6, 7, 8] t.ops.length (fun g p d k wr => ∃ (i : Nat) (z : Bool) (acc : List Rc) (La : List Nat), d = .bool z ∧ k = .int .i64 i ∧ i + g = t.ops.length ∧ Hid (BdO t.ops rr i z acc) ∧ Hid (Own wr 32 4 p acc.length (flat rcC acc) La) ∧ Hid (Mod [] w2 wr) ∧ Hid (∀ y ∈ La, w2.heap.size ≤ y))
        · exact ⟨0, false, [], [], rfl, rfl, by omega, bd_start _ _, Own.nil _ _ _, Mod.refl _ _, by intro y hy; cases hy⟩
        · obtain ⟨i, z, acc, La, rfl, rfl, hi, hBd, hO, hM, hF⟩ := hrel
          obtain ⟨pa, pc, rfl, _⟩ := hO.out.val
          have b10' := hM.out.cellSome b10 (by simp)
          have hQr := hM.out.blk hS.out (by simp)
          have q0 : wr.cell? ⟨q, 0, none⟩ = some (.string r.key) := by rw [← hk1]; exact hQr.cell 0
          have q1 : wr.cell? ⟨q, 1, none⟩ = some (.int .u64 rr.ln) := hQr.cell 1
          have q2 : wr.cell? ⟨q, 2, none⟩ = some (.bool rr.dl) := hQr.cell 2
          have q3 : wr.cell? ⟨q, 3, none⟩ = some (.string rr.vl) := hQr.cell 3
          have hqlr := hQr.lt
          have hblr : b < wr.heap.size := Nat.lt_of_lt_of_le hbl hM.out.size
          have hal := bd_len hBd.out
          clear hQr
          by_cases hlt : i < t.ops.length
          · have hlti : (i : Int) < (t.ops.length : Int) := by omega
            have hi0 : (0 : Int) ≤ (i : Int) := by omega
            obtain ⟨x, hx⟩ : ∃ x, t.ops[i]? = some x := ⟨_, List.getElem?_eq_getElem (by omega)⟩
            obtain ⟨ab, off, rfl, hc⟩ := (HX.out.mod hM.out).at hx
            have c0 := hc 0 _ rfl
            have c1 := hc 1 _ rfl
            have c2 := hc 2 _ rfl
            have c3 := hc 3 _ rfl
            simp only [Nat.add_zero] at c0
            have Hx := hid hx
            clear hx hc
            rcases SL_tri x.key r.key with hlk | hek | hgk
            · have e1 := eqS_no (show x.key ≠ r.key from fun k => by rw [k] at hlk; exact SL_irrefl _ hlk)
              have e2 := blS_no (SL_asymm hlk)
              have e3 := blS_yes hlk
              cases z
              · have HBn := hid (bd_less hBd.out Hx.out (by rw [hk1]; exact hlk))
                clear hlk
                go_upto_region 14 with (fail)
                go_region
                all_goals
                  go_upto_region 15 with (fail)
                  go_region
                  all_goals
                    have hZ := ((Mod.refl [] wr).alloc (.cells (rcA x) 32)).drew.drew
                    have HE : Hid (Own (wr.alloc (.cells (rcA x) 32)).drew.drew 32 4 (.slice pa acc.length pc) acc.length (flat rcC acc) La) := hO.out.mod hZ (by simp)
                    have HX1 : Hid (Lx 4 rcC (wr.alloc (.cells (rcA x) 32)).drew.drew (.slice (some ⟨wr.heap.size, 0, none⟩) 1 1) [x]) := (ap_one wr x).mod (Mod.refl [] _).drew.drew
                    have HZ := hid (hM.out.tr hZ)
                    clear hZ
                    go_wp2_with (at_builtin; refine wpList_append_lx rc_lays rfl (.tmp 61) (.tmp 69) 39 32 rfl Try.underlying39 ins_el rfl rfl HE.out rfl HX1.out (by simp; omega) (by simp; omega) ?_; intro v1 w5 L1 h1 h2 h3)
                    go_roundg (gk - 1)
                    case measure => omega
                    case rel => exact ⟨i + 1, false, acc ++ [x], L1, rfl, by go_num, by omega, HBn, ap_end h1.out, HZ.out.fresh h2.out hF.out, fun y hy => (h3.out y hy).elim (hF.out y) (fun h => Nat.le_trans HZ.out.size h)⟩
              · exact absurd (bd_past Hs.out hBd.out Hx.out).1 (by rw [hk1]; exact SL_asymm hlk)
            · have e1 := (eqS_iff x.key r.key).2 hek
              have HBn := hid (bd_same hBd.out Hx.out (by rw [hk1]; exact hek))
              clear hek
              go_upto_region 14 with (fail)
              go_region
              all_goals
                go_wp2
                go_roundg (gk - 1)
                case measure => omega
                case rel => exact ⟨i + 1, z, acc, La, rfl, by go_num, by omega, HBn, hO.out.mod (M := []) (Mod.refl [] wr).drew (by simp), hM.out.drew, hF⟩
            · have e1 := eqS_no (show x.key ≠ r.key from fun k => by rw [k] at hgk; exact SL_irrefl _ hgk)
              have e2 := blS_no (SL_asymm hgk)
              have hgk2 : SL rr.key x.key := by rw [hk1]; exact hgk
              cases z
              · have HBn := hid (bd_more hBd.out Hx.out hgk2)
                have hK : Hid (∀ X, Mod [] w2 X → (X.cell? ⟨b, 10, none⟩ = some (.slice (some ⟨ab, off, none⟩) t.ops.length cap) ∧ b < X.heap.size) ∧ X.cell? ⟨ab, off + i * 4, none⟩ = some (.string x.key) ∧ X.cell? ⟨ab, off + i * 4 + 1, none⟩ = some (.int .u64 x.ln) ∧ X.cell? ⟨ab, off + i * 4 + 2, none⟩ = some (.bool x.dl) ∧ X.cell? ⟨ab, off + i * 4 + 3, none⟩ = some (.string x.vl)) := by
                  intro X hX
                  obtain ⟨_, _, e, hc⟩ := (HX.out.mod hX).at Hx.out
                  simp only [Option.some.injEq, Addr.mk.injEq, and_true] at e
                  obtain ⟨rfl, rfl⟩ := e
                  exact ⟨⟨hX.cellSome b10 (by simp), Nat.lt_of_lt_of_le hbl hX.size⟩, hc 0 _ rfl, hc 1 _ rfl, hc 2 _ rfl, hc 3 _ rfl⟩
                clear hgk hgk2
                go_upto_region 14 with (fail)
                go_region
                all_goals
                  go_upto_region 15 with (fail)
                  go_region
                  all_goals
                    have hZ := ((Mod.refl [] wr).alloc (.cells (rcA rr) 32)).drew.drew
                    have HE : Hid (Own (wr.alloc (.cells (rcA rr) 32)).drew.drew 32 4 (.slice pa acc.length pc) acc.length (flat rcC acc) La) := hO.out.mod hZ (by simp)
                    have HX1 : Hid (Lx 4 rcC (wr.alloc (.cells #[.string r.key, .int .u64 rr.ln, .bool rr.dl, .string rr.vl] 32)).drew.drew (.slice (some ⟨wr.heap.size, 0, none⟩) 1 1) [rr]) := by show Lx _ _ _ _ _; rw [← hk1]; exact (ap_one wr rr).mod (Mod.refl [] _).drew.drew
                    have HZ := hid (hM.out.tr hZ)
                    rw [show rcA rr = #[.string r.key, .int .u64 rr.ln, .bool rr.dl, .string rr.vl] by rw [← hk1]] at HE HZ
                    clear hZ
                    go_upto_region 18 with (at_builtin; refine wpList_append_lx rc_lays rfl (.tmp 57) (.tmp 59) 39 32 rfl Try.underlying39 ins_el rfl rfl HE.out rfl HX1.out (by simp; omega) (by simp; omega) ?_; intro v1 w5 L1 h1 h2 h3)
                    have HM5 := hid (HZ.out.fresh h2.out hF.out)
                    have HO5 := hid (ap_end h1.out)
                    have HF5 : Hid (∀ y ∈ L1, w2.heap.size ≤ y) := fun y hy => (h3.out y hy).elim (hF.out y) (fun h => Nat.le_trans HZ.out.size h)
                    clear h1 h2 h3 HE HX1 HZ q0 q1 q2 q3 c0 c1 c2 c3 b10' hqlr hblr
                    obtain ⟨⟨b10', hblr⟩, c0, c1, c2, c3⟩ := hK.out _ HM5.out
                    have HZ := hid (HM5.out.alloc (.cells (rcA x) 32))
                    have HE := hid (ap_own HO5.out (Mod.refl [] w5) x)
                    have HX1 := hid (ap_one w5 x)
                    have hl2 : (acc ++ [rr]).length = acc.length + 1 := by simp
                    go_wp2_with (at_builtin; refine wpList_append_lx rc_lays rfl (.tmp 61) (.tmp 69) 39 32 rfl Try.underlying39 ins_el rfl rfl HE.out rfl HX1.out (by rw [hl2]; simp; omega) (by rw [hl2]; simp; omega) ?_; intro v6 w6 L6 h1 h2 h3)
                    go_roundg (gk - 1)
                    case measure => omega
                    case rel => exact ⟨i + 1, true, acc ++ [rr] ++ [x], L6, rfl, by go_num, by omega, HBn, ap_end h1.out, HZ.out.fresh h2.out HF5.out, fun y hy => (h3.out y hy).elim (HF5.out y) (fun h => Nat.le_trans HZ.out.size h)⟩
              · have HBn := hid (bd_past Hs.out hBd.out Hx.out).2
                clear hgk hgk2
                go_upto_region 14 with (fail)
                go_region
                all_goals
                  go_upto_region 15 with (fail)
                  go_region
                  all_goals
                    have hZ := ((Mod.refl [] wr).alloc (.cells (rcA x) 32)).drew.drew
                    have HE : Hid (Own (wr.alloc (.cells (rcA x) 32)).drew.drew 32 4 (.slice pa acc.length pc) acc.length (flat rcC acc) La) := hO.out.mod hZ (by simp)
                    have HX1 : Hid (Lx 4 rcC (wr.alloc (.cells (rcA x) 32)).drew.drew (.slice (some ⟨wr.heap.size, 0, none⟩) 1 1) [x]) := (ap_one wr x).mod (Mod.refl [] _).drew.drew
                    have HZ := hid (hM.out.tr hZ)
                    clear hZ
                    go_wp2_with (at_builtin; refine wpList_append_lx rc_lays rfl (.tmp 61) (.tmp 69) 39 32 rfl Try.underlying39 ins_el rfl rfl HE.out rfl HX1.out (by simp; omega) (by simp; omega) ?_; intro v1 w5 L1 h1 h2 h3)
                    go_roundg (gk - 1)
                    case measure => omega
                    case rel => exact ⟨i + 1, true, acc ++ [x], L1, rfl, by go_num, by omega, HBn, ap_end h1.out, HZ.out.fresh h2.out hF.out, fun y hy => (h3.out y hy).elim (hF.out y) (fun h => Nat.le_trans HZ.out.size h)⟩
          · have hlti : ¬ (i : Int) < (t.ops.length : Int) := by omega
            have hEnd := hid (bd_end hBd.out (by omega))
            cases z
            · have hZ := (Mod.refl [] wr).alloc (.cells (rcA rr) 32)
              have HE := hid (ap_own hO.out (Mod.refl [] wr) rr)
              have HX1 := hid (ap_one wr rr)
              have HZ := hid (hM.out.tr hZ)
              rw [show rcA rr = #[.string r.key, .int .u64 rr.ln, .bool rr.dl, .string rr.vl] by rw [← hk1]] at HE HZ HX1
              clear hZ
              go_upto_region 21 with (at_builtin; refine wpList_append_lx rc_lays rfl (.tmp 73) (.tmp 75) 39 32 rfl Try.underlying39 ins_el rfl rfl HE.out rfl HX1.out (by simp; omega) (by simp; omega) ?_; intro v1 w5 L1 h1 h2 h3)
              have HM5 := hid (HZ.out.fresh h2.out hF.out)
              have HO5 := hid (ap_end h1.out)
              have HF5 : Hid (∀ y ∈ L1, w2.heap.size ≤ y) := fun y hy => (h3.out y hy).elim (hF.out y) (fun h => Nat.le_trans HZ.out.size h)
              clear h1 h2 h3 HE HX1 HZ q0 q1 q2 q3 b10' hqlr hblr
              obtain ⟨a5, c5, rfl, _⟩ := HO5.out.val
              generalize (acc ++ [rr]) = acc5 at *
              have hEnd2 : Hid (acc5 = putO t.ops rr) := hEnd.out
              have hbr := HM5.out.blk HB.out (by simp)
              have b10' := hbr.cell 10
              simp only [rxC, List.getElem?_toArray, List.getElem?_cons_zero, List.getElem?_cons_succ] at b10'
              have f10 := hbr.free 10
              have hblr := hbr.lt
              have HB5 := hid hbr
              clear hbr
              go_wp2
              go_ret
              have hbL : b ∉ L1 := fun h => by have := HF5.out b h; have := hbl; omega
              have hmw : Mod [] w w5 := HM2.out.tr HM5.out
              refine ⟨by rw [hE2.out]; rfl, b :: L1, ?_, (hmw.mono (by simp)).setCell (p := ⟨b, 10, none⟩) (Or.inl (by simp)) _, fun k hk => ?_⟩
              · rw [HcT.out, ← hEnd2.out]
                exact ⟨_, L1, HB5.out.set 10 _, HO5.out.mod (M := [b]) ((Mod.refl [b] w5).setCell (by simp) _) (fun k hk => by simp; intro h; exact hbL (h ▸ hk)), hbL, rfl⟩
              · rcases List.mem_cons.1 hk with rfl | hk
                · exact Or.inl (by simp)
                · right; have h1 := HF5.out k hk; have h2 := HM2.out.size; omega
            · obtain ⟨acc5, hacc5⟩ : ∃ acc5, acc5 = acc := ⟨_, rfl⟩
              have HO5 : Hid (Own wr 32 4 (.slice pa acc5.length pc) acc5.length (flat rcC acc5) La) := by rw [hacc5]; exact hO
              rw [← hacc5] at hEnd ⊢
              have HM5 := hid hM.out
              have HF5 := hid hF.out
              clear q0 q1 q2 q3 hqlr hO hM hF hBd hal hacc5
              go_upto_region 21 with (fail)
              clear b10' hblr
              have hEnd2 : Hid (acc5 = putO t.ops rr) := hEnd.out
              have hbr := HM5.out.blk HB.out (by simp)
              have b10' := hbr.cell 10
              simp only [rxC, List.getElem?_toArray, List.getElem?_cons_zero, List.getElem?_cons_succ] at b10'
              have f10 := hbr.free 10
              have hblr := hbr.lt
              have HB5 := hid hbr
              clear hbr
              go_wp2
              go_ret
              have hbL : b ∉ La := fun h => by have := HF5.out b h; have := hbl; omega
              have hmw : Mod [] w wr := HM2.out.tr HM5.out
              refine ⟨by rw [hE2.out]; rfl, b :: La, ?_, (hmw.mono (by simp)).setCell (p := ⟨b, 10, none⟩) (Or.inl (by simp)) _, fun k hk => ?_⟩
              · rw [HcT.out, ← hEnd2.out]
                exact ⟨_, La, HB5.out.set 10 _, HO5.out.mod (M := [b]) ((Mod.refl [b] wr).setCell (by simp) _) (fun k hk => by simp; intro h; exact hbL (h ▸ hk)), hbL, rfl⟩
              · rcases List.mem_cons.1 hk with rfl | hk
                · exact Or.inl (by simp)
                · right; have h1 := HF5.out k hk; have h2 := HM2.out.size; omega
    · have hE : Hid (wroteE t r = mayE r) := by show _ = _; unfold wroteE; rw [hov]; simp [hy]
      have hy2 : (mayE r != 0) = true := bne_iff_ne.2 hy
      have Hy := hid hy
      clear hy
      go_wp2
      go_ret
      exact HF.out _ Hm1.out _ hE.out Hy.out
  · have hE : Hid (wroteE t r = 13) := by show _ = _; simp [wroteE, hov]
    go_wp2_with (go_at_call 39; refine (over_c W b t L HT.out).mono ?_; rintro e w' ⟨rfl, rfl⟩; rw [hov])
    go_ret
    exact HF.out _ (Mod.refl [] W) 13 hE.out (by decide)
end Go.Proofs.Ytocfeeecgpklnaa
