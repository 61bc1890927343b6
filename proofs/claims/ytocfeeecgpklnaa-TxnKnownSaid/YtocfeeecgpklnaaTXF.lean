/- right, whatever the call. -/
import Derived.Test.YtocfeeecgpklnaaTXE
namespace Go.Proofs.Ytocfeeecgpklnaa
set_option linter.unusedVariables false
set_option linter.unusedSimpArgs false
set_option linter.unusedSectionVars false
open Go.RowKit

/-- The parts are had. -/
def partsB (c : Cl) (h0 h1 h2 : Bool) : Nat → Bool
  | 0 => true
  | 1 => !nonS c.key || h0
  | 2 => (!nonS c.key || h0) && (!nonS c.hi || h1)
  | _ => (!nonS c.key || h0) && (!nonS c.hi || h1) && (!nonS c.val || h2)

set_option maxRecDepth 100000 in
set_option maxHeartbeats 8000000 in
theorem right_yes (w : World) (b : Nat) (t : Tx) (c : Cl) (L : List Nat) (h : txR b t w L) (k : Nat) (hk : c.kind = k) (h1 : 1 ≤ k) (h6 : k ≤ 6) (hts : c.ts = t.ts) :
    Calls Try.prog 33 #[.pointer (some ⟨b, 0, none⟩), clV c] w fun e w' => e = .returned (.int .i64 (rightE t.ts c)) ∧ Mod [] w w' := by
  obtain ⟨kd, cts, key, hi, val⟩ := c
  dsimp only at hk hts
  subst hts
  have hk1 : 1 ≤ kd := by omega
  have hk6 : kd ≤ 6 := by omega
  have hkat := kinds_at k h1 h6
  rw [← hk] at hkat
  clear hk h1 h6
  obtain ⟨T0, hT0⟩ : ∃ T0, t.ts = T0 := ⟨_, rfl⟩
  have hR : Hid (rightE T0 ⟨kd, T0, key, hi, val⟩ = if partsB ⟨kd, T0, key, hi, val⟩ (keyH kd) (hiH kd) (valH kd) 3 && (nonS key || !keyH kd || hiH kd) then 0 else 2) := by
    show _ = _
    unfold rightE rightB partsB
    simp [hk1, hk6]
  generalize keyH kd = z0 at *
  generalize hiH kd = z1 at *
  generalize valH kd = z2 at *
  obtain ⟨v, M, hb, ho, hbM, rfl⟩ := h
  unfold clV
  dsimp only
  rw [hT0]
  have hM := (Mod.refl [] w).alloc (.cells #[.int .i64 kd, .int .u64 T0, .string key, .string hi, .string val] 24)
  have hB := hM.blk hb (by simp)
  have hb0 : (w.alloc (.cells #[.int .i64 kd, .int .u64 T0, .string key, .string hi, .string val] 24)).cell? ⟨b, 0, none⟩ = some (.int .u64 t.ts) := hB.cell 0
  rw [hT0] at hb0
  have hC := Blk.new w #[.int .i64 kd, .int .u64 T0, .string key, .string hi, .string val] 24
  have b0 : (w.alloc (.cells #[.int .i64 kd, .int .u64 T0, .string key, .string hi, .string val] 24)).cell? ⟨b, 0, none⟩ = some (.int .u64 T0) := hb0
  have hbl := hb.lt
  have HM := hid hM
  have HC := hid hC
  have d1 : decide (kd ≤ 0) = false := by simp; omega
  have h1' : ¬ kd ≤ 0 := by omega
  have h2' : ¬ 6 < kd := by omega
  have d2 : decide (6 < kd) = false := by simp; omega
  clear hb ho hM hB hC hT0
  go_enter Try.func33, Try.ntmps33
  go_upto_region 1 with (fail)
  go_quiet (fail)
  rename_i nq _
  generalize hWW : w.alloc (.cells #[.int .i64 kd, .int .u64 T0, .string key, .string hi, .string val] 24) = W0 at *
  generalize w.heap.size = r0 at *
  replace HM := hid (HM.out.drewN nq)
  replace HC := hid (((Mod.refl [] W0).drewN nq).blk HC.out (by simp))
  clear b0 hWW
  go_upto_region 3 with (fail)
  generalize W0.drewN nq = W at *
  have hS : Hid (∀ Z, Mod [] W Z → Z.cell? ⟨r0, 0, none⟩ = some (.int .i64 kd)) := fun Z hZ => (hZ.blk HC.out (by simp)).cell 0
  have hS0 := hS.out _ (Mod.refl [] W).drew
  go_cut [5] from 25 to 28 (fun p wx => ∃ r : Nat, p = .pointer (some ⟨r, 0, none⟩) ∧ Hid (Mod [] W wx) ∧ Hid (Blk wx r #[.bool z0, .bool z1, .bool z2] 88))
  case first =>
    have e0 := hS.out _ (Mod.refl [] W)
    have hrl := HC.out.lt
    have hbz := hid (Blk.new W #[.bool false, .bool false, .bool false] 88).drew
    have hmz := hid ((Mod.refl [] W).alloc (.cells #[.bool false, .bool false, .bool false] 88)).drew
    have hk1' := hid (kinds_c W.drew)
    have hk2' := hid (kinds_c (W.alloc (.cells #[.bool false, .bool false, .bool false] 88)).drew)
    go_region_law (first
      | (go_simp; go_at_call 55; (with_reducible refine hk1'.out.mono ?_); rintro e w' ⟨rfl, hm⟩; have hmW := (Mod.refl [] W).drew.tr hm; have e1 := hS.out _ hmW; have hr2 : r0 < w'.heap.size := Nat.lt_of_lt_of_le hrl hmW.size)
      | (go_simp; go_at_call 55; (with_reducible refine hk2'.out.mono ?_); rintro e w' ⟨rfl, hm⟩; have hmW := hmz.out.tr hm; have e1 := hS.out _ hmW; have hr2 : r0 < w'.heap.size := Nat.lt_of_lt_of_le hrl hmW.size; have hbz2 := hm.blk hbz.out (by simp); have y0 := hbz2.cell 0; have y1 := hbz2.cell 1; have y2 := hbz2.cell 2; have x0 := hbz2.free 0; have x1 := hbz2.free 1; have x2 := hbz2.free 2; have hzl := hbz2.lt; simp at y0 y1 y2)
      | fail)
    all_goals
      go_wp2
      go_meet
      first
        | exact ⟨_, rfl, hid (((hmW.setCell (Or.inr (Nat.le_refl _)) _).setCell (Or.inr (Nat.le_refl _)) _).setCell (Or.inr (Nat.le_refl _)) _), hid (((hbz2.set 0 _).set 1 _).set 2 _)⟩
        | exact ⟨_, rfl, hid (hmW.alloc _), hid (Blk.new w' _ _)⟩
        | exact ⟨_, rfl, hid (hmW.alloc _).drew, hid (Blk.new w' _ _).drew⟩
  case rest =>
    obtain ⟨r, rfl, HMc, HB⟩ := hcut
    replace HC := hid (HMc.out.blk HC.out (by simp))
    have hMw := hid (HM.out.tr HMc.out)
    have s2 : wc.cell? ⟨r0, 2, none⟩ = some (.string key) := HC.out.cell 2
    have s3 : wc.cell? ⟨r0, 3, none⟩ = some (.string hi) := HC.out.cell 3
    have s4 : wc.cell? ⟨r0, 4, none⟩ = some (.string val) := HC.out.cell 4
    have hrl := HC.out.lt
    clear hS hS0
    have i0 : ∀ w, (Instr.index 91 (.agg #[.string key, .string hi, .string val]) (.int .i64 0)).run Try.prog w = .ok (.string key) w := fun _ => by kernel_rfl
    have i1 : ∀ w, (Instr.index 91 (.agg #[.string key, .string hi, .string val]) (.int .i64 1)).run Try.prog w = .ok (.string hi) w := fun _ => by kernel_rfl
    have i2 : ∀ w, (Instr.index 91 (.agg #[.string key, .string hi, .string val]) (.int .i64 2)).run Try.prog w = .ok (.string val) w := fun _ => by kernel_rfl
    go_wp2
    go_loopg [36] 3 (fun g p wr => ∃ j : Nat, p = .int .i64 j ∧ j + g = 3 ∧ Hid (partsB ⟨kd, T0, key, hi, val⟩ z0 z1 z2 j = true) ∧ Hid (Mod [] wc wr))
    · exact ⟨0, rfl, by omega, rfl, Mod.refl _ _⟩
    · obtain ⟨j, rfl, hj, hP, hM⟩ := hrel
      have hBr := hM.out.blk HB.out (by simp)
      have q0 : wr.cell? ⟨r, 0, none⟩ = some (.bool z0) := hBr.cell 0
      have q1 : wr.cell? ⟨r, 1, none⟩ = some (.bool z1) := hBr.cell 1
      have q2 : wr.cell? ⟨r, 2, none⟩ = some (.bool z2) := hBr.cell 2
      have hrl2 := hBr.lt
      have hCr := hM.out.blk HC.out (by simp)
      have t2 : wr.cell? ⟨r0, 2, none⟩ = some (.string key) := hCr.cell 2
      have hrl3 := hCr.lt
      clear hBr hCr s2 s3 s4
      rcases (by omega : j = 0 ∨ j = 1 ∨ j = 2 ∨ j = 3) with rfl | rfl | rfl | rfl
      · -- part 0
        cases hs : nonS key
        · have g1 := nonS_no hs
          have hp : Hid (partsB ⟨kd, T0, key, hi, val⟩ z0 z1 z2 (0 + 1) = true) := by show _ = _; have := hP.out; simp [partsB, hs] at this ⊢; skip
          clear hs
          go_wp2
          go_roundg (gk - 1)
          case measure => omega
          case rel => exact ⟨0 + 1, rfl, by omega, hp, hM⟩
        · obtain ⟨g1, g2⟩ := nonS_yes hs
          cases hz : z0
          · rw [hz] at q0
            have hp : Hid (partsB ⟨kd, T0, key, hi, val⟩ z0 z1 z2 3 = false) := by show _ = _; simp [partsB, hs, hz]
            clear hs hz
            go_wp2
            go_ret
            exact ⟨by rw [hR.out, hp.out]; rfl, hMw.out.tr hM.out⟩
          · rw [hz] at q0
            have hp : Hid (partsB ⟨kd, T0, key, hi, val⟩ z0 z1 z2 (0 + 1) = true) := by show _ = _; have := hP.out; simp [partsB, hs, hz] at this ⊢; skip
            clear hs hz
            go_wp2
            go_roundg (gk - 1)
            case measure => omega
            case rel => exact ⟨0 + 1, rfl, by omega, hp, hM⟩
      · -- part 1
        cases hs : nonS hi
        · have g1 := nonS_no hs
          have hp : Hid (partsB ⟨kd, T0, key, hi, val⟩ z0 z1 z2 (1 + 1) = true) := by show _ = _; have := hP.out; simp [partsB, hs] at this ⊢; try simp [this]
          clear hs
          go_wp2
          go_roundg (gk - 1)
          case measure => omega
          case rel => exact ⟨1 + 1, rfl, by omega, hp, hM⟩
        · obtain ⟨g1, g2⟩ := nonS_yes hs
          cases hz : z1
          · rw [hz] at q1
            have hp : Hid (partsB ⟨kd, T0, key, hi, val⟩ z0 z1 z2 3 = false) := by show _ = _; simp [partsB, hs, hz]
            clear hs hz
            go_wp2
            go_ret
            exact ⟨by rw [hR.out, hp.out]; rfl, hMw.out.tr hM.out⟩
          · rw [hz] at q1
            have hp : Hid (partsB ⟨kd, T0, key, hi, val⟩ z0 z1 z2 (1 + 1) = true) := by show _ = _; have := hP.out; simp [partsB, hs, hz] at this ⊢; try simp [this]
            clear hs hz
            go_wp2
            go_roundg (gk - 1)
            case measure => omega
            case rel => exact ⟨1 + 1, rfl, by omega, hp, hM⟩
      · -- part 2
        cases hs : nonS val
        · have g1 := nonS_no hs
          have hp : Hid (partsB ⟨kd, T0, key, hi, val⟩ z0 z1 z2 (2 + 1) = true) := by show _ = _; have := hP.out; simp [partsB, hs] at this ⊢; try simp [this]
          clear hs
          go_wp2
          go_roundg (gk - 1)
          case measure => omega
          case rel => exact ⟨2 + 1, rfl, by omega, hp, hM⟩
        · obtain ⟨g1, g2⟩ := nonS_yes hs
          cases hz : z2
          · rw [hz] at q2
            have hp : Hid (partsB ⟨kd, T0, key, hi, val⟩ z0 z1 z2 3 = false) := by show _ = _; simp [partsB, hs, hz]
            clear hs hz
            go_wp2
            go_ret
            exact ⟨by rw [hR.out, hp.out]; rfl, hMw.out.tr hM.out⟩
          · rw [hz] at q2
            have hp : Hid (partsB ⟨kd, T0, key, hi, val⟩ z0 z1 z2 (2 + 1) = true) := by show _ = _; have := hP.out; simp [partsB, hs, hz] at this ⊢; try simp [this]
            clear hs hz
            go_wp2
            go_roundg (gk - 1)
            case measure => omega
            case rel => exact ⟨2 + 1, rfl, by omega, hp, hM⟩
      · -- behind the loop
        have hR2 : Hid (rightE T0 ⟨kd, T0, key, hi, val⟩ = if nonS key || !z0 || z1 then 0 else 2) := by show _ = _; rw [hR.out, hP.out, Bool.true_and]
        clear hR hP
        cases hs : nonS key
        case' true =>
          obtain ⟨g1, g2⟩ := nonS_yes hs
        case' false =>
          have g1 := nonS_no hs
        all_goals
          rw [hs] at hR2
          clear hs
          cases z0 <;> cases z1
          all_goals
            go_wp2_with (go_at_call 31; refine (unless_c _ _ _).mono ?_; rintro e w' ⟨rfl, rfl⟩)
            go_ret
            exact ⟨by rw [hR2.out]; rfl, hMw.out.tr hM.out⟩

theorem right_c (w : World) (b : Nat) (t : Tx) (c : Cl) (L : List Nat) (h : txR b t w L) :
    Calls Try.prog 33 #[.pointer (some ⟨b, 0, none⟩), clV c] w fun e w' => e = .returned (.int .i64 (rightE t.ts c)) ∧ Mod [] w w' := by
  by_cases hn : 1 ≤ c.kind ∧ c.kind ≤ 6 ∧ c.ts = t.ts
  · obtain ⟨k, hk⟩ := Int.eq_ofNat_of_zero_le (show 0 ≤ c.kind by omega)
    exact right_yes w b t c L h k hk (by omega) (by omega) hn.2.2
  · have e : rightE t.ts c = 2 := by
      unfold rightE rightB
      rw [if_neg]
      simp only [Bool.and_eq_true, decide_eq_true_eq]
      intro h
      exact hn ⟨h.1.1.1.1.1.1, h.1.1.1.1.1.2, h.1.1.1.1.2⟩
    rw [e]
    exact right_no w b t c L h hn

end Go.Proofs.Ytocfeeecgpklnaa
