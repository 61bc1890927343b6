/- The law VersDoes, walked. -/
import Derived.Test.YtmdomihpohekiaaVR
import Derived.Test.YtmdomihpohekiaaVI
namespace Go.Proofs.Ytmdomihpohekiaa
set_option linter.unusedVariables false
set_option linter.unusedSimpArgs false
set_option linter.unusedSectionVars false
open Go.RowKit

theorem eq_self (x : Vr) (w : World) : (Op.equalIn 10000 25 (.agg #[.int .u64 x.ts, .int .u64 x.ln, .bool x.dl, .string x.vl, .bool x.ak]) (.agg #[.int .u64 x.ts, .int .u64 x.ln, .bool x.dl, .string x.vl, .bool x.ak])).run Try.prog w = .ok true w := by
  rw [eq_vr, (eqV_iff x x).2 rfl]
theorem sameB_self (l : List Vr) : sameB l l = true := (sameB_iff l l).2 rfl
abbrev VB (w : World) (b : Nat) (x : Vr) : Prop := Blk w b #[.int .u64 x.ts, .int .u64 x.ln, .bool x.dl, .string x.vl, .bool x.ak] 25

set_option maxRecDepth 100000 in
set_option maxHeartbeats 8000000 in
theorem does_walk (a : Option Addr) (cap : Nat) (xs : List Vr) (v : Vr) (n0 n1 : Nat) (w : World) (hcap : xs.length ≤ cap) (h : Lv w (.slice a xs.length cap) xs) (hx : ∀ x ∈ xs, x.Ok) (hv : v.Ok) (h0 : n0 < 18446744073709551616) (h1 : n1 < 18446744073709551616) :
    Calls Try.prog 3 #[.slice a xs.length cap, vrV v, .agg #[.int .u64 n0, .int .u64 n1]] w fun e w' => e = .returned (.bool true) ∧ Mod [] w w' := by
  have H := hid h
  have hlen : xs.length ≤ 9223372036854775807 := by
    obtain ⟨_, _, _, _, hlen⟩ := h
    exact hlen
  clear h
  obtain ⟨hv1, hv2, hv3⟩ := hv
  obtain ⟨m, hm⟩ : ∃ m, m = min xs.length 60 := ⟨_, rfl⟩
  obtain ⟨l, hl⟩ : ∃ l, l = xs.take m := ⟨_, rfl⟩
  have hll : l.length = m := by rw [hl, List.length_take]; omega
  have hl60 : l.length ≤ 60 := by omega
  have HL : Hid (Lv w (.slice a l.length cap) l) := by
    have h := H.out.take (m := m) (by omega) cap
    rw [← hl] at h
    rw [hll]; exact h
  have HX : Hid (∀ x ∈ l, x.ts < 18446744073709551616) := fun x hx' => (hx x (by rw [hl] at hx'; exact List.mem_of_mem_take hx')).1
  have HM := hid (((Mod.refl [] w).alloc (.cells #[.int .u64 v.ts, .int .u64 v.ln, .bool v.dl, .string v.vl, .bool v.ak] 25)).alloc (.cells #[.int .u64 n0, .int .u64 n1] 26))
  have hB := (Blk.new w #[.int .u64 v.ts, .int .u64 v.ln, .bool v.dl, .string v.vl, .bool v.ak] 25).alloc (.cells #[.int .u64 n0, .int .u64 n1] 26)
  have hN := Blk.new (w.alloc (.cells #[.int .u64 v.ts, .int .u64 v.ln, .bool v.dl, .string v.vl, .bool v.ak] 25)) #[.int .u64 n0, .int .u64 n1] 26
  rw [World.size_alloc] at hN
  have HB := hid hB
  have HN := hid hN
  have hm2 : (xs.length ≤ 60 ∧ m = xs.length) ∨ (60 < xs.length ∧ m = 60) := by omega
  have Hll := hid hll
  clear hB hN hx hm hl hll
  simp only [vrV]
  go_enter Try.func3, Try.ntmps3
  go_upto_region 1 with (fail)
  go_cut [0] from 24 to 28 (fun q wx => q = .slice a l.length cap ∧ Hid (Mod [] w wx) ∧ Hid (VB wx w.heap.size v) ∧ Hid (Blk wx (w.heap.size + 1) #[.int .u64 n0, .int .u64 n1] 26))
  case first =>
    rcases hm2 with ⟨k1, k2⟩ | ⟨k1, k2⟩
    · have k5 : xs.length ≤ cap := hcap
      have k3 : ¬ ((60 : Int) < (xs.length : Int)) := by omega
      have Hll2 := Hll.out.trans k2
      have K := hid Hll2
      clear Hll2 Hll k2
      go_wp2
      go_meet
      exact ⟨by rw [K.out], HM, HB, HN⟩
    · have k5 : 60 ≤ cap := by omega
      have k3 : (60 : Int) < (xs.length : Int) := by omega
      have k4 : ¬ (xs.length : Int) < 60 := by omega
      have Hll2 := Hll.out.trans k2
      have K := hid Hll2
      clear Hll2 Hll k2
      go_wp2
      go_meet
      exact ⟨by rw [K.out], HM, HB, HN⟩
  case rest =>
    obtain ⟨rfl, M, HB, HN⟩ := hcut
    replace HL := hid (HL.out.mod M.out)
    have HC := hid (show wc.heap.size = wc.heap.size from rfl)
    clear HC H hm2 hlen Hll
    generalize w.heap.size = b0 at *
    go_upto_region 4 with (at_builtin; refine wpList_append_new rfl (.tmp 29) (.tmp 30) rfl rfl rfl HL.out (by omega) ?_; intro v1 w1 L1 h1 h2 h3)
    obtain ⟨a1, c1, rfl, hc1, hc2, _⟩ := h1.out.val
    have HO := hid (Own.lv h1.out)
    replace HL := hid (HL.out.mod h2.out)
    replace HB := hid (h2.out.blk HB.out (by simp))
    replace HN := hid (h2.out.blk HN.out (by simp))
    replace M := hid (M.out.tr h2.out)
    clear h1 h2 h3
    have n0f : w1.cell? ⟨b0 + 1, 0, none⟩ = some (.int .u64 n0) := HN.out.cell 0
    go_wp2_with fail
    refine (visible_c _ _ l n0 HL.out).mono ?_
    rintro e w2 ⟨rfl, k⟩
    clear n0f
    obtain ⟨A, hA⟩ : ∃ A, (seenB (visP n0) l).getD v0 = A := ⟨_, rfl⟩
    obtain ⟨sA, hsA⟩ : ∃ sA, (seenB (visP n0) l).isSome = sA := ⟨_, rfl⟩
    rw [hA, hsA]
    replace hA := hid hA
    replace hsA := hid hsA
    replace HL := hid (HL.out.mod k)
    replace HO := hid (HO.out.mod k)
    replace HB := hid (k.blk HB.out (by simp))
    replace HN := hid (k.blk HN.out (by simp))
    replace M := hid (M.out.tr k)
    clear k
    have hb := Blk.new w2 #[.int .u64 A.ts, .int .u64 A.ln, .bool A.dl, .string A.vl, .bool A.ak] 25
    have k := (Mod.refl [] w2).alloc (.cells #[.int .u64 A.ts, .int .u64 A.ln, .bool A.dl, .string A.vl, .bool A.ak] 25)
    have Hb2 := hid hb
    clear hb
    simp only [vrV]
    go_upto_region 5 with (fail)
    generalize w2.alloc (.cells #[.int .u64 A.ts, .int .u64 A.ln, .bool A.dl, .string A.vl, .bool A.ak] 25) = x2 at *
    generalize w2.heap.size = b2 at *
    replace HL := hid (HL.out.mod k)
    replace HO := hid (HO.out.mod k)
    replace HB := hid (k.blk HB.out (by simp))
    replace HN := hid (k.blk HN.out (by simp))
    replace M := hid (M.out.tr k)
    clear k
    have n0f : x2.cell? ⟨b0 + 1, 0, none⟩ = some (.int .u64 n0) := HN.out.cell 0
    go_wp2_with fail
    refine (rvisible_c _ _ l n0 HO.out).mono ?_
    rintro e w3 ⟨rfl, k⟩
    clear n0f
    rw [hA.out, hsA.out]
    replace HL := hid (HL.out.mod k)
    replace HO := hid (HO.out.mod k)
    replace HB := hid (k.blk HB.out (by simp))
    replace HN := hid (k.blk HN.out (by simp))
    replace Hb2 := hid (k.blk Hb2.out (by simp))
    replace M := hid (M.out.tr k)
    clear k
    have hb := Blk.new w3 #[.int .u64 A.ts, .int .u64 A.ln, .bool A.dl, .string A.vl, .bool A.ak] 25
    have k := (Mod.refl [] w3).alloc (.cells #[.int .u64 A.ts, .int .u64 A.ln, .bool A.dl, .string A.vl, .bool A.ak] 25)
    have Hb3 := hid hb
    clear hb
    simp only [vrV]
    go_upto_region 6 with (fail)
    generalize w3.alloc (.cells #[.int .u64 A.ts, .int .u64 A.ln, .bool A.dl, .string A.vl, .bool A.ak] 25) = x3 at *
    generalize w3.heap.size = b3 at *
    replace HL := hid (HL.out.mod k)
    replace HO := hid (HO.out.mod k)
    replace HB := hid (k.blk HB.out (by simp))
    replace HN := hid (k.blk HN.out (by simp))
    replace Hb2 := hid (k.blk Hb2.out (by simp))
    replace M := hid (M.out.tr k)
    clear k
    have n0f : x3.cell? ⟨b0 + 1, 0, none⟩ = some (.int .u64 n0) := HN.out.cell 0
    go_wp2_with fail
    refine (newest_c _ _ l HL.out).mono ?_
    rintro e w4 ⟨rfl, k⟩
    clear n0f
    obtain ⟨B, hB⟩ : ∃ B, (seenB (fun _ => true) l).getD v0 = B := ⟨_, rfl⟩
    obtain ⟨sB, hsB⟩ : ∃ sB, (seenB (fun _ => true) l).isSome = sB := ⟨_, rfl⟩
    rw [hB, hsB]
    replace hB := hid hB
    replace hsB := hid hsB
    replace HL := hid (HL.out.mod k)
    replace HO := hid (HO.out.mod k)
    replace HB := hid (k.blk HB.out (by simp))
    replace HN := hid (k.blk HN.out (by simp))
    replace Hb2 := hid (k.blk Hb2.out (by simp))
    replace Hb3 := hid (k.blk Hb3.out (by simp))
    replace M := hid (M.out.tr k)
    clear k
    have hb := Blk.new w4 #[.int .u64 B.ts, .int .u64 B.ln, .bool B.dl, .string B.vl, .bool B.ak] 25
    have k := (Mod.refl [] w4).alloc (.cells #[.int .u64 B.ts, .int .u64 B.ln, .bool B.dl, .string B.vl, .bool B.ak] 25)
    have Hb4 := hid hb
    clear hb
    simp only [vrV]
    go_upto_region 7 with (fail)
    generalize w4.alloc (.cells #[.int .u64 B.ts, .int .u64 B.ln, .bool B.dl, .string B.vl, .bool B.ak] 25) = x4 at *
    generalize w4.heap.size = b4 at *
    replace HL := hid (HL.out.mod k)
    replace HO := hid (HO.out.mod k)
    replace HB := hid (k.blk HB.out (by simp))
    replace HN := hid (k.blk HN.out (by simp))
    replace Hb2 := hid (k.blk Hb2.out (by simp))
    replace Hb3 := hid (k.blk Hb3.out (by simp))
    replace M := hid (M.out.tr k)
    clear k
    have n0f : x4.cell? ⟨b0 + 1, 0, none⟩ = some (.int .u64 n0) := HN.out.cell 0
    go_wp2_with fail
    refine (rnewest_c _ _ l HO.out HX.out).mono ?_
    rintro e w5 ⟨rfl, k⟩
    clear n0f
    rw [hB.out, hsB.out]
    replace HL := hid (HL.out.mod k)
    replace HO := hid (HO.out.mod k)
    replace HB := hid (k.blk HB.out (by simp))
    replace HN := hid (k.blk HN.out (by simp))
    replace Hb2 := hid (k.blk Hb2.out (by simp))
    replace Hb3 := hid (k.blk Hb3.out (by simp))
    replace Hb4 := hid (k.blk Hb4.out (by simp))
    replace M := hid (M.out.tr k)
    clear k
    have hb := Blk.new w5 #[.int .u64 B.ts, .int .u64 B.ln, .bool B.dl, .string B.vl, .bool B.ak] 25
    have k := (Mod.refl [] w5).alloc (.cells #[.int .u64 B.ts, .int .u64 B.ln, .bool B.dl, .string B.vl, .bool B.ak] 25)
    have Hb5 := hid hb
    clear hb
    simp only [vrV]
    go_upto_region 8 with (fail)
    generalize w5.alloc (.cells #[.int .u64 B.ts, .int .u64 B.ln, .bool B.dl, .string B.vl, .bool B.ak] 25) = x5 at *
    generalize w5.heap.size = b5 at *
    replace HL := hid (HL.out.mod k)
    replace HO := hid (HO.out.mod k)
    replace HB := hid (k.blk HB.out (by simp))
    replace HN := hid (k.blk HN.out (by simp))
    replace Hb2 := hid (k.blk Hb2.out (by simp))
    replace Hb3 := hid (k.blk Hb3.out (by simp))
    replace Hb4 := hid (k.blk Hb4.out (by simp))
    replace M := hid (M.out.tr k)
    clear k
    have n0f : x5.cell? ⟨b0 + 1, 0, none⟩ = some (.int .u64 n0) := HN.out.cell 0
    go_wp2_with fail
    refine (below_c _ _ l n0 HL.out).mono ?_
    rintro e w6 ⟨rfl, k⟩
    clear n0f
    obtain ⟨C, hC⟩ : ∃ C, (seenB (belP n0) l).getD v0 = C := ⟨_, rfl⟩
    obtain ⟨sC, hsC⟩ : ∃ sC, (seenB (belP n0) l).isSome = sC := ⟨_, rfl⟩
    rw [hC, hsC]
    replace hC := hid hC
    replace hsC := hid hsC
    replace HL := hid (HL.out.mod k)
    replace HO := hid (HO.out.mod k)
    replace HB := hid (k.blk HB.out (by simp))
    replace HN := hid (k.blk HN.out (by simp))
    replace Hb2 := hid (k.blk Hb2.out (by simp))
    replace Hb3 := hid (k.blk Hb3.out (by simp))
    replace Hb4 := hid (k.blk Hb4.out (by simp))
    replace Hb5 := hid (k.blk Hb5.out (by simp))
    replace M := hid (M.out.tr k)
    clear k
    have hb := Blk.new w6 #[.int .u64 C.ts, .int .u64 C.ln, .bool C.dl, .string C.vl, .bool C.ak] 25
    have k := (Mod.refl [] w6).alloc (.cells #[.int .u64 C.ts, .int .u64 C.ln, .bool C.dl, .string C.vl, .bool C.ak] 25)
    have Hb6 := hid hb
    clear hb
    simp only [vrV]
    go_upto_region 9 with (fail)
    generalize w6.alloc (.cells #[.int .u64 C.ts, .int .u64 C.ln, .bool C.dl, .string C.vl, .bool C.ak] 25) = x6 at *
    generalize w6.heap.size = b6 at *
    replace HL := hid (HL.out.mod k)
    replace HO := hid (HO.out.mod k)
    replace HB := hid (k.blk HB.out (by simp))
    replace HN := hid (k.blk HN.out (by simp))
    replace Hb2 := hid (k.blk Hb2.out (by simp))
    replace Hb3 := hid (k.blk Hb3.out (by simp))
    replace Hb4 := hid (k.blk Hb4.out (by simp))
    replace Hb5 := hid (k.blk Hb5.out (by simp))
    replace M := hid (M.out.tr k)
    clear k
    have n0f : x6.cell? ⟨b0 + 1, 0, none⟩ = some (.int .u64 n0) := HN.out.cell 0
    go_wp2_with fail
    refine (rbelow_c _ _ l n0 HO.out h0).mono ?_
    rintro e w7 ⟨rfl, k⟩
    clear n0f
    rw [hC.out, hsC.out]
    replace HL := hid (HL.out.mod k)
    replace HO := hid (HO.out.mod k)
    replace HB := hid (k.blk HB.out (by simp))
    replace HN := hid (k.blk HN.out (by simp))
    replace Hb2 := hid (k.blk Hb2.out (by simp))
    replace Hb3 := hid (k.blk Hb3.out (by simp))
    replace Hb4 := hid (k.blk Hb4.out (by simp))
    replace Hb5 := hid (k.blk Hb5.out (by simp))
    replace Hb6 := hid (k.blk Hb6.out (by simp))
    replace M := hid (M.out.tr k)
    clear k
    have hb := Blk.new w7 #[.int .u64 C.ts, .int .u64 C.ln, .bool C.dl, .string C.vl, .bool C.ak] 25
    have k := (Mod.refl [] w7).alloc (.cells #[.int .u64 C.ts, .int .u64 C.ln, .bool C.dl, .string C.vl, .bool C.ak] 25)
    have Hb7 := hid hb
    clear hb
    simp only [vrV]
    go_upto_region 10 with (fail)
    generalize w7.alloc (.cells #[.int .u64 C.ts, .int .u64 C.ln, .bool C.dl, .string C.vl, .bool C.ak] 25) = x7 at *
    generalize w7.heap.size = b7 at *
    replace HL := hid (HL.out.mod k)
    replace HO := hid (HO.out.mod k)
    replace HB := hid (k.blk HB.out (by simp))
    replace HN := hid (k.blk HN.out (by simp))
    replace Hb2 := hid (k.blk Hb2.out (by simp))
    replace Hb3 := hid (k.blk Hb3.out (by simp))
    replace Hb4 := hid (k.blk Hb4.out (by simp))
    replace Hb5 := hid (k.blk Hb5.out (by simp))
    replace Hb6 := hid (k.blk Hb6.out (by simp))
    replace M := hid (M.out.tr k)
    clear k
    have n0f : x7.cell? ⟨b0 + 1, 0, none⟩ = some (.int .u64 n0) := HN.out.cell 0
    obtain ⟨p0, p1, p2, p3, p4, _⟩ := Blk.five HB.out
    go_wp2_with fail
    refine (put_c _ _ l v HL.out (by omega) hv3).mono ?_
    rintro e w8 ⟨q1, Lq1, rfl, ho, k, _⟩
    clear n0f p0 p1 p2 p3 p4
    have HP1 := hid (Own.lv ho)
    clear ho
    replace HL := hid (HL.out.mod k)
    replace HO := hid (HO.out.mod k)
    replace HB := hid (k.blk HB.out (by simp))
    replace HN := hid (k.blk HN.out (by simp))
    replace Hb2 := hid (k.blk Hb2.out (by simp))
    replace Hb3 := hid (k.blk Hb3.out (by simp))
    replace Hb4 := hid (k.blk Hb4.out (by simp))
    replace Hb5 := hid (k.blk Hb5.out (by simp))
    replace Hb6 := hid (k.blk Hb6.out (by simp))
    replace Hb7 := hid (k.blk Hb7.out (by simp))
    replace M := hid (M.out.tr k)
    clear k
    go_upto_region 11 with (fail)
    have n0f : w8.cell? ⟨b0 + 1, 0, none⟩ = some (.int .u64 n0) := HN.out.cell 0
    obtain ⟨p0, p1, p2, p3, p4, _⟩ := Blk.five HB.out
    go_wp2_with fail
    refine (rput_c _ _ l v HO.out ⟨_, _, rfl, hc1⟩ (by omega) hv3).mono ?_
    rintro e w9 ⟨q2, Lq2, rfl, ho, k, _⟩
    clear n0f p0 p1 p2 p3 p4
    have HP2 := hid (Own.lv ho)
    clear ho
    replace HL := hid (HL.out.mod k)
    replace HO := hid (HO.out.mod k)
    replace HP1 := hid (HP1.out.mod k)
    replace HB := hid (k.blk HB.out (by simp))
    replace HN := hid (k.blk HN.out (by simp))
    replace Hb2 := hid (k.blk Hb2.out (by simp))
    replace Hb3 := hid (k.blk Hb3.out (by simp))
    replace Hb4 := hid (k.blk Hb4.out (by simp))
    replace Hb5 := hid (k.blk Hb5.out (by simp))
    replace Hb6 := hid (k.blk Hb6.out (by simp))
    replace Hb7 := hid (k.blk Hb7.out (by simp))
    replace M := hid (M.out.tr k)
    clear k
    go_upto_region 12 with (fail)
    obtain ⟨P, hP⟩ : ∃ P, putL l v = P := ⟨_, rfl⟩
    obtain ⟨E, hE⟩ : ∃ E, putE l v = E := ⟨_, rfl⟩
    rw [hE]
    rw [hP] at HP1 HP2
    clear hP hE
    obtain ⟨c00, c01, c02, c03, c04, _⟩ := Blk.five Hb2.out
    obtain ⟨c10, c11, c12, c13, c14, _⟩ := Blk.five Hb3.out
    obtain ⟨c20, c21, c22, c23, c24, _⟩ := Blk.five Hb4.out
    obtain ⟨c30, c31, c32, c33, c34, _⟩ := Blk.five Hb5.out
    obtain ⟨c40, c41, c42, c43, c44, _⟩ := Blk.five Hb6.out
    obtain ⟨c50, c51, c52, c53, c54, _⟩ := Blk.five Hb7.out
    have eA := eq_self A
    have eB := eq_self B
    have eC := eq_self C
    go_wp2_with fail
    refine (rsame_c _ _ _ P P HP1.out HP2.out).mono ?_
    rintro e w20 ⟨rfl, k⟩
    rw [sameB_self]
    clear eA eB eC c00 c01 c02 c03 c04 c10 c11 c12 c13 c14 c20 c21 c22 c23 c24 c30 c31 c32 c33 c34 c40 c41 c42 c43 c44 c50 c51 c52 c53 c54
    replace HL := hid (HL.out.mod k)
    replace HO := hid (HO.out.mod k)
    replace HP1 := hid (HP1.out.mod k)
    replace HP2 := hid (HP2.out.mod k)
    replace HB := hid (k.blk HB.out (by simp))
    replace HN := hid (k.blk HN.out (by simp))
    replace Hb2 := hid (k.blk Hb2.out (by simp))
    replace Hb3 := hid (k.blk Hb3.out (by simp))
    replace Hb4 := hid (k.blk Hb4.out (by simp))
    replace Hb5 := hid (k.blk Hb5.out (by simp))
    replace Hb6 := hid (k.blk Hb6.out (by simp))
    replace Hb7 := hid (k.blk Hb7.out (by simp))
    replace M := hid (M.out.tr k)
    clear k
    clear HP1 HP2 Hb2 Hb3 Hb4 Hb5 Hb6 Hb7
    go_upto_region 14 with (fail)
    have hS : Hid (∀ X, Mod [] w20 X → X.cell? ⟨b0 + 1, 0, none⟩ = some (.int .u64 n0) ∧ X.cell? ⟨b0 + 1, 1, none⟩ = some (.int .u64 n1) ∧ X.cell? ⟨b0, 4, none⟩ = some (.bool v.ak)) := fun X hX => ⟨(hX.blk HN.out (by simp)).cell 0, (hX.blk HN.out (by simp)).cell 1, (hX.blk HB.out (by simp)).cell 4⟩
    have hS0 := hS.out _ (Mod.refl [] w20).drew
    go_region_held3 (fun X => Mod [] w20 X ∧ X.cell? ⟨b0 + 1, 0, none⟩ = some (.int .u64 n0) ∧ X.cell? ⟨b0 + 1, 1, none⟩ = some (.int .u64 n1) ∧ X.cell? ⟨b0, 4, none⟩ = some (.bool v.ak))
      (first | exact ⟨(Mod.refl [] w20).drew, hS0⟩ | assumption | exact ⟨Mod.tr (And.left ‹Mod [] w20 _ ∧ _›) hm, hS.out _ (Mod.tr (And.left ‹Mod [] w20 _ ∧ _›) hm)⟩ | fail)
      (first
        | (go_at_call 17; ((with_reducible refine (cut_c _ _ l n0 (HL.out.mod (And.left ‹Mod [] w20 _ ∧ _›)) (by omega)).mono ?_); rintro e X ⟨r, L, rfl, ho, hm, _⟩; have C1 := hid (Own.lv ho); clear ho))
        | (go_at_call 18; ((with_reducible refine (rcut_c _ _ l n0 (HO.out.mod (And.left ‹Mod [] w20 _ ∧ _›)) (by omega)).mono ?_); rintro e X ⟨r, L, rfl, ho, hm, _⟩; have C1 := hid (C1.out.mod hm); have D1 := hid (Own.lv ho); clear ho))
        | (go_at_call 16; ((with_reducible refine (rsame_c _ _ _ _ _ C1.out D1.out).mono ?_); rintro e X ⟨rfl, hm⟩; rw [sameB_self]; clear C1 D1))
        | (go_at_call 19; ((with_reducible refine (logged_c _ _ l n0 n1 (HL.out.mod (And.left ‹Mod [] w20 _ ∧ _›)) (by omega)).mono ?_); rintro e X ⟨r, L, rfl, ho, hm, _⟩; have C2 := hid (Own.lv ho); clear ho))
        | (go_at_call 20; ((with_reducible refine (rlogged_c _ _ l n0 n1 (HO.out.mod (And.left ‹Mod [] w20 _ ∧ _›)) (by omega)).mono ?_); rintro e X ⟨r, L, rfl, ho, hm, _⟩; have C2 := hid (C2.out.mod hm); have D2 := hid (Own.lv ho); clear ho))
        | (go_at_call 16; ((with_reducible refine (rsame_c _ _ _ _ _ C2.out D2.out).mono ?_); rintro e X ⟨rfl, hm⟩; rw [sameB_self]; clear C2 D2))
        | (go_at_call 21; ((with_reducible refine (acked_c _ _ l n1 v.ak (HL.out.mod (And.left ‹Mod [] w20 _ ∧ _›)) (by omega)).mono ?_); rintro e X ⟨r, L, rfl, ho, hm, _⟩; have C3 := hid (Own.lv ho); clear ho))
        | (go_at_call 22; ((with_reducible refine (racked_c _ _ l n1 v.ak (HO.out.mod (And.left ‹Mod [] w20 _ ∧ _›)) (by omega)).mono ?_); rintro e X ⟨r, L, rfl, ho, hm, _⟩; have C3 := hid (C3.out.mod hm); have D3 := hid (Own.lv ho); clear ho))
        | (go_at_call 16; ((with_reducible refine (rsame_c _ _ _ _ _ C3.out D3.out).mono ?_); rintro e X ⟨rfl, hm⟩; rw [sameB_self]; clear C3 D3))
        | (go_at_call 23; ((with_reducible refine (prune_c _ _ l n0 (HL.out.mod (And.left ‹Mod [] w20 _ ∧ _›)) (by omega)).mono ?_); rintro e X ⟨r, L, rfl, ho, hm, _⟩; have C4 := hid (Own.lv ho); clear ho))
        | (go_at_call 24; ((with_reducible refine (rprune_c _ _ l n0 (HO.out.mod (And.left ‹Mod [] w20 _ ∧ _›)) ⟨_, _, rfl, hc1⟩ (by omega)).mono ?_); rintro e X ⟨r, L, rfl, ho, hm, _⟩; have C4 := hid (C4.out.mod hm); have D4 := hid (Own.lv ho); clear ho))
        | (go_at_call 16; ((with_reducible refine (rsame_c _ _ _ _ _ C4.out D4.out).mono ?_); rintro e X ⟨rfl, hm⟩; rw [sameB_self]; clear C4 D4))
        | (go_at_call 16; ((with_reducible refine (rsame_c _ _ _ _ _ (HL.out.mod (And.left ‹Mod [] w20 _ ∧ _›)) (HO.out.mod (And.left ‹Mod [] w20 _ ∧ _›))).mono ?_); rintro e X ⟨rfl, hm⟩; rw [sameB_self]))
        | (go_at_call 25; ((with_reducible refine (works_c _).mono ?_); rintro e X ⟨rfl, hm⟩))
        | fail)
    go_wp2
    go_ret
    exact ⟨rfl, M.out.tr (And.left ‹Mod [] w20 _ ∧ _›)⟩
end Go.Proofs.Ytmdomihpohekiaa
