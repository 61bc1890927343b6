/- The reference's put. -/
import Derived.Test.YtkacjggjmdndaaaSPK
namespace Go.Proofs.Ytkacjggjmdndaaa
set_option linter.unusedVariables false
set_option linter.unusedSimpArgs false
set_option linter.unusedSectionVars false
open Go.RowKit

theorem rel_range : (Try.prog.info? 52).map (fun i => (i.zero, i.size, i.bytes)) = some (some (rgV ⟨mt, mt, 0⟩), 3, 40) := by kernel_rfl

theorem lb_at {l : List Rg} (hs : Srt l) {r : Rg} {at_ : Nat} (h1 : ∀ j x, j < at_ → l[j]? = some x → RL x r) (h2 : ∀ j x, at_ ≤ j → l[j]? = some x → ¬ RL x r) (h : at_ ≤ l.length) : IsLb l r at_ := ⟨h, h1, h2⟩

open Classical in
set_option maxRecDepth 100000 in
set_option maxHeartbeats 8000000 in
theorem rput_c (w : World) (b : Nat) (most : Int) (l : List Rg) (r : Rg) (L : List Nat) (h : refR b most l w L) (hs : Srt l) (hl : l.length ≤ 1000) :
    Calls Try.prog 18 #[.pointer (some ⟨b, 0, none⟩), rgV r] w (Says w L (.tuple #[]) (refR b most (insR r l))) := by
  obtain ⟨v, M, hb, ho, hbM, rfl⟩ := h
  have Hs := hid hs
  obtain ⟨R, hRR⟩ : ∃ R, insR r l = R := ⟨_, rfl⟩
  rw [hRR]
  have HRR := hid hRR
  have hRl : R.length ≤ 1001 := by rw [← hRR]; have := (insR_len r l).2; omega
  clear hRR
  obtain ⟨a, cap, rfl, hnc, hga, hg⟩ := ho.val
  have hM := (Mod.refl [] w).alloc (.cells #[.string r.lo, .string r.hi, .int .u64 r.ts] 52)
  have hB := hM.blk hb (by simp)
  have hO := ho.mod hM (by simp)
  have hR := Blk.new w #[.string r.lo, .string r.hi, .int .u64 r.ts] 52
  have hbw := hb.lt
  have hMw := hid ho.lt
  clear hs hb ho
  go_enter Try.func18, Try.ntmps18
  go_wp2
  generalize w.alloc (.cells #[.string r.lo, .string r.hi, .int .u64 r.ts] 52) = W at *
  generalize hbr : w.heap.size = br at *
  have Hbr := hid hbr
  have HB := hid hB
  have HO := hid hO
  have HR := hid hR
  have HM := hid hM
  have HL := hid (hO.lx rg_lays (by omega))
  clear hbr hB hO hR hM
  go_loopg [4, 5] l.length (fun g p q wr => ∃ (k z : Nat), p = .int .i64 z ∧ q = .int .i64 k ∧ k + g = l.length ∧ z ≤ k ∧ Hid (∀ j x, j < z → l[j]? = some x → RL x r) ∧ Hid (∀ j x, z ≤ j → j < k → l[j]? = some x → ¬ RL x r) ∧ Hid (∀ j x, j < k → l[j]? = some x → ¬ Al x r) ∧ Hid (Mod [] W wr))
  · exact ⟨0, 0, rfl, rfl, by omega, by omega, hid (by intro j x h; omega), hid (by intro j x _ h; omega), hid (by intro j x h; omega), Mod.refl _ _⟩
  · obtain ⟨k, z, rfl, rfl, hk, hzk, hA, hZ, hN, hMl⟩ := hrel
    have hBw := hMl.out.blk HB.out (by simp)
    have hRw := hMl.out.blk HR.out (by simp)
    have b1 : wr.cell? ⟨b, 1, none⟩ = some (.slice a l.length cap) := hBw.cell 1
    have bf1 := hBw.free 1
    have r0 : wr.cell? ⟨br, 0, none⟩ = some (.string r.lo) := hRw.cell 0
    have r1 : wr.cell? ⟨br, 1, none⟩ = some (.string r.hi) := hRw.cell 1
    have r2 : wr.cell? ⟨br, 2, none⟩ = some (.int .u64 r.ts) := hRw.cell 2
    have hbl := hBw.lt
    have hrl := hRw.lt
    have HBw := hid hBw
    have HRw := hid hRw
    clear hBw hRw
    rcases Nat.lt_or_ge k l.length with hlt | hge
    · obtain ⟨x, hx⟩ : ∃ x, l[k]? = some x := ⟨_, List.getElem?_eq_getElem hlt⟩
      obtain ⟨b', off, rfl, hc⟩ := (HL.out.mod hMl.out).at hx
      have c0 := hc 0 _ rfl
      have c1 := hc 1 _ rfl
      have c2 := hc 2 _ rfl
      simp only [Nat.add_zero] at c0
      have hki : (k : Int) < (l.length : Int) := by omega
      have Hx := hid hx
      clear hx hc
      by_cases ha : Al x r
      · have f1 := (eqS_iff x.lo r.lo).2 ha.1
        have f2 := (eqS_iff x.hi r.hi).2 ha.2
        have hlb : Hid (IsLb l r k) := by
          refine ⟨by omega, fun j y hj hy => ?_, fun j y hj hy h => ?_⟩
          · have h1 : RL y x := by
              obtain ⟨q1, rfl⟩ := List.getElem?_eq_some_iff.1 hy
              obtain ⟨q2, e⟩ := List.getElem?_eq_some_iff.1 Hx.out
              rw [← e]
              exact List.pairwise_iff_getElem.1 Hs.out j k q1 q2 hj
            exact (RL_congr ha).1 h1
          · exact RL_al (srt_lb Hs.out (j := k) (k := j) hj Hx.out hy h) ha
        have Hins : Hid (R = l.set k { x with ts := max x.ts r.ts }) := HRR.out.symm.trans (insR_set hlb.out Hx.out ha)
        obtain ⟨g, off2, e2, rfl, cur, hcur⟩ := hg (by omega)
        simp only [Option.some.injEq, Addr.mk.injEq, and_true] at e2
        obtain ⟨rfl, rfl⟩ := e2
        have hbg : b ≠ b' := by simpa using hbM
        have HOw := hid (HO.out.mod hMl.out (by simp))
        have hcurw := (HM.out.tr hMl.out).blk hcur (by simp)
        have g2 := hcurw.free (off + k * 3 + 2)
        have hgl := hcurw.lt
        have hset : Hid (flat rgC (l.set k { x with ts := max x.ts r.ts }) = (flat rgC l).set (k * 3 + 2) (.int .u64 ((max x.ts r.ts : Nat) : Int))) := flat_set rg_lays l k x _ 2 _ Hx.out (by decide) rfl
        have hmx : Hid ((max (x.ts : Int) (r.ts : Int)) = ((max x.ts r.ts : Nat) : Int)) := by show _ = _; omega
        have hgeg : b' ≠ wr.heap.size := by omega
        clear ha hcur hcurw hg
        go_upto_region 7 with (fail)
        go_region
        all_goals
          go_wp2
          go_end0
          refine ⟨rfl, [b, b'], ⟨.slice (some ⟨b', off, none⟩) l.length cap, [b'], ?_, ?_, by simpa using hbg, rfl⟩, ?_, fun k hk => Or.inl hk⟩
          · exact ((HBw.out.other (a := ⟨b', off + k * 3 + 2, none⟩) hbg _).alloc _).drew
          · rw [Hins.out, hset.out, List.length_set, hmx.out]
            have h := HOw.out.set (k * 3 + 2) (by omega) (.int .u64 ((max x.ts r.ts : Nat) : Int))
            rw [show off + (k * 3 + 2) = off + k * 3 + 2 by omega] at h
            exact h.mod (((Mod.refl [] _).alloc _).drew) (by simp)
          · exact ((((HM.out.tr hMl.out).mono (m := [b, b']) (by simp)).setCell (p := ⟨b', off + k * 3 + 2, none⟩) (Or.inl (by simp)) _).alloc _).drew
      · have hNk := hid (show ∀ j y, j < k + 1 → l[j]? = some y → ¬ Al y r from fun j y hj hy => by
          rcases (by omega : j < k ∨ j = k) with h | rfl
          · exact hN.out j y h hy
          · rw [Hx.out] at hy; cases hy; exact ha)
        have hMX := hid (hMl.out.alloc (.cells #[.string x.lo, .string x.hi, .int .u64 x.ts] 52))
        have hbw1 : b ≠ wr.heap.size := by omega
        rcases SL_tri x.lo r.lo with h1 | h1 | h1
        · have f1 := eqS_no (show x.lo ≠ r.lo from fun e => by rw [e] at h1; exact SL_irrefl _ h1)
          have f2 := blS_yes h1
          have Hrl := hid (show RL x r from Or.inl h1)
          clear ha h1
          go_wp2
          go_roundg (gk - 1)
          case measure => omega
          case rel => exact ⟨k + 1, k + 1, by go_num, by go_num, by omega, by omega, hid (fun j y hj hy => srt_lb Hs.out (j := j) (k := k) (by omega) hy Hx.out Hrl.out), hid (by intro j y h1 h2; omega), hNk, hMX⟩
        · have f1 := (eqS_iff x.lo r.lo).2 h1
          have f2 := blS_no (show ¬ SL x.lo r.lo from fun h => by rw [h1] at h; exact SL_irrefl _ h)
          have f3 := eqS_no (show x.hi ≠ r.hi from fun e => ha ⟨h1, e⟩)
          by_cases hE : EL x.hi r.hi
          · have hbf : befB x.hi r.hi = true := by unfold befB; exact decide_eq_true hE
            have Hrl := hid (show RL x r from Or.inr ⟨h1, hE⟩)
            clear ha h1 hE
            go_wp2_with (go_at_call 19; refine (before_c _ _ _).mono ?_; rintro e w2 ⟨rfl, rfl⟩; rw [hbf])
            go_roundg (gk - 1)
            case measure => omega
            case rel => exact ⟨k + 1, k + 1, by go_num, by go_num, by omega, by omega, hid (fun j y hj hy => srt_lb Hs.out (j := j) (k := k) (by omega) hy Hx.out Hrl.out), hid (by intro j y h1 h2; omega), hNk, hMX⟩
          · have hbf : befB x.hi r.hi = false := by unfold befB; exact decide_eq_false hE
            have Hrl := hid (show ¬ RL x r from fun h => h.elim (fun q => by rw [h1] at q; exact SL_irrefl _ q) (fun q => hE q.2))
            clear ha h1 hE
            go_wp2_with (go_at_call 19; refine (before_c _ _ _).mono ?_; rintro e w2 ⟨rfl, rfl⟩; rw [hbf])
            go_roundg (gk - 1)
            case measure => omega
            case rel => exact ⟨k + 1, z, rfl, by go_num, by omega, by omega, hA, hid (fun j y h1 h2 hy => by
              rcases (by omega : j < k ∨ j = k) with h | rfl
              · exact hZ.out j y h1 h hy
              · rw [Hx.out] at hy; cases hy; exact Hrl.out), hNk, hMX⟩
        · have f1 := eqS_no (show x.lo ≠ r.lo from fun e => by rw [e] at h1; exact SL_irrefl _ h1)
          have f2 := blS_no (SL_asymm h1)
          have Hrl := hid (show ¬ RL x r from fun h => h.elim (SL_asymm h1) (fun q => by rw [q.1] at h1; exact SL_irrefl _ h1))
          clear ha h1
          go_wp2
          go_roundg (gk - 1)
          case measure => omega
          case rel => exact ⟨k + 1, z, rfl, by go_num, by omega, by omega, hA, hid (fun j y h1 h2 hy => by
            rcases (by omega : j < k ∨ j = k) with h | rfl
            · exact hZ.out j y h1 h hy
            · rw [Hx.out] at hy; cases hy; exact Hrl.out), hNk, hMX⟩
    · obtain rfl : k = l.length := by omega
      have hlb : IsLb l r z := ⟨hzk, hA.out, fun j x hj hx => hZ.out j x hj (List.getElem?_eq_some_iff.1 hx).1 hx⟩
      have Hins : Hid (R = l.take z ++ r :: l.drop z) := HRR.out.symm.trans (insR_put hlb (fun x hx => hN.out z x (List.getElem?_eq_some_iff.1 hx).1 hx))
      clear hA hZ hN hlb hge
      rcases (by omega : (cap = l.length ∧ z = l.length) ∨ cap ≠ z) with ⟨rfl, rfl⟩ | hcz
      · have HLw := hid (HL.out.mod hMl.out)
        have htk : (l.take l.length).length = l.length := by rw [List.length_take]; omega
        have hTk : Hid (Lx 3 rgC wr (.slice a l.length l.length) (l.take l.length)) := HLw.out.take (by omega) _
        have hFR : Hid (flat rgC R = flat rgC (l.take l.length) ++ rgC r ++ flat rgC (l.drop l.length)) := by show _ = _; rw [Hins.out]; simp [flat]
        have hRn : Hid (R.length = l.length + 1 + (l.drop l.length).length) := by show _ = _; rw [Hins.out]; (first | (simp; done) | (simp; omega))
        have hdl : (l.drop l.length).length = 0 := by simp
        have Htk := hid htk
        have Hdl := hid hdl
        clear htk hdl Hins
        go_upto_region 12 with (at_builtin; refine wpList_append_lx rg_lays rfl (.tmp 69) (.tmp 75) 35 52 rfl Try.underlying35 rel_range rfl rfl (Own.nil _ _ _) rfl hTk.out (by rw [Htk.out]; omega) (by rw [Htk.out]; omega) ?_; intro v1 w1 L1 h1 h2 h3)
        have ho1 := h1.out
        rw [Htk.out, List.nil_append, Nat.zero_add] at ho1
        obtain ⟨a1, c1, rfl, _⟩ := ho1.val
        have hRw1 := h2.out.blk HRw.out (by simp)
        have s0 : w1.cell? ⟨br, 0, none⟩ = some (.string r.lo) := hRw1.cell 0
        have s1 : w1.cell? ⟨br, 1, none⟩ = some (.string r.hi) := hRw1.cell 1
        have s2 : w1.cell? ⟨br, 2, none⟩ = some (.int .u64 r.ts) := hRw1.cell 2
        have hO1 := hid (ho1.mod ((Mod.refl [] w1).alloc (.cells #[.string r.lo, .string r.hi, .int .u64 r.ts] 52)) (by simp))
        have hX1 : Hid (Lx 3 rgC (w1.alloc (.cells #[.string r.lo, .string r.hi, .int .u64 r.ts] 52)) (.slice (some ⟨w1.heap.size, 0, none⟩) 1 1) [r]) := by
          have hbn := Blk.new w1 #[.string r.lo, .string r.hi, .int .u64 r.ts] 52
          refine ⟨_, 1, rfl, Or.inr ⟨w1.heap.size, 0, rfl, fun i x hx j v hj => ?_⟩, by simp⟩
          have hi : i = 0 := by
            have := (List.getElem?_eq_some_iff.1 hx).1
            simp at this; exact this
          subst hi
          simp at hx
          subst hx
          rw [hbn.cell, Nat.zero_mul, Nat.add_zero, Nat.zero_add]
          simpa [rgC] using hj
        have HM1 := hid (hMl.out.tr (h2.out.alloc (.cells #[.string r.lo, .string r.hi, .int .u64 r.ts] 52)))
        have HLf1 := hid (fun q hq => ho1.lt q hq)
        have HF1 := hid (show ∀ q ∈ L1, wr.heap.size ≤ q from fun q hq => (h3.out q hq).resolve_left (by simp))
        clear h1 h2 h3 ho1 hRw1 hTk b1 r0 r1 r2 bf1
        go_upto_region 13 with (at_builtin; refine wpList_append_lx rg_lays rfl (.tmp 77) (.tmp 79) 35 52 rfl Try.underlying35 rel_range rfl rfl hO1.out rfl hX1.out (by simp; omega) (by simp; omega) ?_; intro v2 w2 L2 h1 h2 h3)
        have ho2 := h1.out
        obtain ⟨a2, c2, rfl, _⟩ := ho2.val
        have hmw2 : Mod [] W w2 := HM1.out.trans h2.out (by simp) (fun q hq hlt => by have := HF1.out q hq; have := hMl.out.size; omega)
        have hB2 := hmw2.blk HB.out (by simp)
        have t1 : w2.cell? ⟨b, 1, none⟩ = some (.slice a l.length l.length) := hB2.cell 1
        have tf1 := hB2.free 1
        have htl := hB2.lt
        have hDr : Hid (Lx 3 rgC w2 (.slice a 0 0) (l.drop l.length)) := Lx.none a 0 0 (by simp) rfl
        have hlen1 : ([r] : List Rg).length = 1 := rfl
        rw [hlen1] at ho2
        have HO2 := hid ho2
        have HM2 := hid hmw2
        have HB2 := hid hB2
        have HF2 := hid (show ∀ q ∈ L2, W.heap.size ≤ q from fun q hq => by
          have hz := hMl.out.size
          rcases h3.out q hq with h | h
          · have := HF1.out q h; omega
          · have := HM1.out.size; omega)
        clear h1 h2 h3 ho2 hmw2 hB2 s0 s1 s2 hO1 hX1 hlen1
        go_wp2_with (at_builtin; refine wpList_append_lx rg_lays rfl (.tmp 82) (.tmp 88) 35 52 rfl Try.underlying35 rel_range rfl rfl HO2.out rfl hDr.out (by rw [Hdl.out]; omega) (by rw [Hdl.out]; omega) ?_; intro v3 w3 L3 h1 h2 h3; obtain ⟨a3, c3, rfl, _⟩ := h1.out.val; have hmw3 := HM2.out.trans h2.out (m := []) (by simp) (fun q hq hlt => by have := HF2.out q hq; omega); have hB3 := hmw3.blk HB.out (by simp); have u1 := hB3.cell 1; have uf1 := hB3.free 1; have utl := hB3.lt; have HB3 := hid hB3; have HM3 := hid hmw3; clear hB3 hmw3)
        go_end0
        have ho3 := h1.out
        rw [Hdl.out, Nat.add_zero] at ho3
        have hFz : ∀ q ∈ L3, W.heap.size ≤ q := fun q hq => by
          rcases h3.out q hq with h | h
          · exact HF2.out q h
          · have := HM2.out.size; omega
        have hWs := HM.out.size
        have hwb : b < W.heap.size := by have := HB.out.lt; exact this
        have e1 : flat rgC [r] = rgC r := by simp [flat]
        have hbL : b ∉ L3 := fun h => by have := hFz b h; omega
        refine ⟨rfl, b :: L3, ⟨_, L3, HB3.out.set 1 _, ?_, hbL, rfl⟩, ((HM.out.tr HM3.out).mono (by simp)).setCell (Or.inl (by simp)) _, ?_⟩
        · rw [hRn.out, Hdl.out, hFR.out, ← e1]
          exact ho3.seg.mod (M := [b]) ((Mod.refl [b] _).setCell (by simp) _) (fun q hq => by simp; intro h; exact hbL (h ▸ hq))
        · intro q hq
          rcases List.mem_cons.1 hq with rfl | hq
          · exact Or.inl (by simp)
          · right; have := hFz q hq; omega
      · obtain ⟨b', off, rfl⟩ : ∃ g off, a = some ⟨g, off, none⟩ := hga.resolve_left (fun h => hcz (by omega))
        have hzl : (z : Int) ≤ (l.length : Int) := by omega
        have hzc : (z : Int) ≤ (cap : Int) := by omega
        have hcz2 : ¬ cap = z := hcz
        have HLw := hid (HL.out.mod hMl.out)
        have htk : (l.take z).length = z := by rw [List.length_take]; omega
        have hTk : Hid (Lx 3 rgC wr (.slice (some ⟨b', off, none⟩) z cap) (l.take z)) := HLw.out.take (by omega) _
        have hFR : Hid (flat rgC R = flat rgC (l.take z) ++ rgC r ++ flat rgC (l.drop z)) := by show _ = _; rw [Hins.out]; simp [flat]
        have hRn : Hid (R.length = z + 1 + (l.drop z).length) := by show _ = _; rw [Hins.out]; (first | (simp; done) | (simp; omega))
        have hdl : (l.drop z).length = l.length - z := by simp
        have Htk := hid htk
        have Hdl := hid hdl
        clear htk hdl Hins
        go_upto_region 12 with (at_builtin; refine wpList_append_lx rg_lays rfl (.tmp 69) (.tmp 75) 35 52 rfl Try.underlying35 rel_range rfl rfl (Own.nil _ _ _) rfl hTk.out (by rw [Htk.out]; omega) (by rw [Htk.out]; omega) ?_; intro v1 w1 L1 h1 h2 h3)
        have ho1 := h1.out
        rw [Htk.out, List.nil_append, Nat.zero_add] at ho1
        obtain ⟨a1, c1, rfl, _⟩ := ho1.val
        have hRw1 := h2.out.blk HRw.out (by simp)
        have s0 : w1.cell? ⟨br, 0, none⟩ = some (.string r.lo) := hRw1.cell 0
        have s1 : w1.cell? ⟨br, 1, none⟩ = some (.string r.hi) := hRw1.cell 1
        have s2 : w1.cell? ⟨br, 2, none⟩ = some (.int .u64 r.ts) := hRw1.cell 2
        have hO1 := hid (ho1.mod ((Mod.refl [] w1).alloc (.cells #[.string r.lo, .string r.hi, .int .u64 r.ts] 52)) (by simp))
        have hX1 : Hid (Lx 3 rgC (w1.alloc (.cells #[.string r.lo, .string r.hi, .int .u64 r.ts] 52)) (.slice (some ⟨w1.heap.size, 0, none⟩) 1 1) [r]) := by
          have hbn := Blk.new w1 #[.string r.lo, .string r.hi, .int .u64 r.ts] 52
          refine ⟨_, 1, rfl, Or.inr ⟨w1.heap.size, 0, rfl, fun i x hx j v hj => ?_⟩, by simp⟩
          have hi : i = 0 := by
            have := (List.getElem?_eq_some_iff.1 hx).1
            simp at this; exact this
          subst hi
          simp at hx
          subst hx
          rw [hbn.cell, Nat.zero_mul, Nat.add_zero, Nat.zero_add]
          simpa [rgC] using hj
        have HM1 := hid (hMl.out.tr (h2.out.alloc (.cells #[.string r.lo, .string r.hi, .int .u64 r.ts] 52)))
        have HLf1 := hid (fun q hq => ho1.lt q hq)
        have HF1 := hid (show ∀ q ∈ L1, wr.heap.size ≤ q from fun q hq => (h3.out q hq).resolve_left (by simp))
        clear h1 h2 h3 ho1 hRw1 hTk b1 r0 r1 r2 bf1
        go_upto_region 13 with (at_builtin; refine wpList_append_lx rg_lays rfl (.tmp 77) (.tmp 79) 35 52 rfl Try.underlying35 rel_range rfl rfl hO1.out rfl hX1.out (by simp; omega) (by simp; omega) ?_; intro v2 w2 L2 h1 h2 h3)
        have ho2 := h1.out
        obtain ⟨a2, c2, rfl, _⟩ := ho2.val
        have hmw2 : Mod [] W w2 := HM1.out.trans h2.out (by simp) (fun q hq hlt => by have := HF1.out q hq; have := hMl.out.size; omega)
        have hB2 := hmw2.blk HB.out (by simp)
        have t1 : w2.cell? ⟨b, 1, none⟩ = some (.slice (some ⟨b', off, none⟩) l.length cap) := hB2.cell 1
        have tf1 := hB2.free 1
        have htl := hB2.lt
        have hDr : Hid (Lx 3 rgC w2 (.slice (some ⟨b', off + z * 3, none⟩) (l.length - z) (cap - z)) (l.drop z)) := (HL.out.mod hmw2).drop (by omega) _ _ rfl
        have hlen1 : ([r] : List Rg).length = 1 := rfl
        rw [hlen1] at ho2
        have HO2 := hid ho2
        have HM2 := hid hmw2
        have HB2 := hid hB2
        have HF2 := hid (show ∀ q ∈ L2, W.heap.size ≤ q from fun q hq => by
          have hz := hMl.out.size
          rcases h3.out q hq with h | h
          · have := HF1.out q h; omega
          · have := HM1.out.size; omega)
        clear h1 h2 h3 ho2 hmw2 hB2 s0 s1 s2 hO1 hX1 hlen1
        go_wp2_with (at_builtin; refine wpList_append_lx rg_lays rfl (.tmp 82) (.tmp 88) 35 52 rfl Try.underlying35 rel_range rfl rfl HO2.out rfl hDr.out (by rw [Hdl.out]; omega) (by rw [Hdl.out]; omega) ?_; intro v3 w3 L3 h1 h2 h3; obtain ⟨a3, c3, rfl, _⟩ := h1.out.val; have hmw3 := HM2.out.trans h2.out (m := []) (by simp) (fun q hq hlt => by have := HF2.out q hq; omega); have hB3 := hmw3.blk HB.out (by simp); have u1 := hB3.cell 1; have uf1 := hB3.free 1; have utl := hB3.lt; have HB3 := hid hB3; have HM3 := hid hmw3; clear hB3 hmw3)
        go_end0
        have ho3 := h1.out
        rw [Hdl.out] at ho3
        have hFz : ∀ q ∈ L3, W.heap.size ≤ q := fun q hq => by
          rcases h3.out q hq with h | h
          · exact HF2.out q h
          · have := HM2.out.size; omega
        have hWs := HM.out.size
        have hwb : b < W.heap.size := by have := HB.out.lt; exact this
        have e1 : flat rgC [r] = rgC r := by simp [flat]
        have hbL : b ∉ L3 := fun h => by have := hFz b h; omega
        refine ⟨rfl, b :: L3, ⟨_, L3, HB3.out.set 1 _, ?_, hbL, rfl⟩, ((HM.out.tr HM3.out).mono (by simp)).setCell (Or.inl (by simp)) _, ?_⟩
        · rw [hRn.out, Hdl.out, hFR.out, ← e1]
          exact ho3.seg.mod (M := [b]) ((Mod.refl [b] _).setCell (by simp) _) (fun q hq => by simp; intro h; exact hbL (h ▸ hq))
        · intro q hq
          rcases List.mem_cons.1 hq with rfl | hq
          · exact Or.inl (by simp)
          · right; have := hFz q hq; omega
end Go.Proofs.Ytkacjggjmdndaaa
