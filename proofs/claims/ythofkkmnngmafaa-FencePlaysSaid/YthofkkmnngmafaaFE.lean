/- A node: its place of a key; cut; split. -/
import Derived.Test.YthofkkmnngmafaaFC
namespace Go.Proofs.Ythofkkmnngmafaa
set_option linter.unusedVariables false
set_option linter.unusedSimpArgs false
set_option linter.unusedSectionVars false
open Go.RowKit

theorem Own.cutcap {w : World} {E : TypeId} {sz g n cap k : Nat} {xs : List Value} {L : List Nat} (h : Own w E sz (.slice (some ⟨g, 0, none⟩) n cap) n xs L) (hk : k ≤ n) (c' : Nat) (hc : k ≤ c') (hc2 : c' ≤ cap) : Own w E sz (.slice (some ⟨g, 0, none⟩) k c') k (xs.take (k * sz)) L := by
  obtain ⟨h0, h1⟩ := h
  have hks : k * sz ≤ n * sz := Nat.mul_le_mul_right _ hk
  have hcs : c' * sz ≤ cap * sz := Nat.mul_le_mul_right _ hc2
  rcases h1 with ⟨e, _⟩ | ⟨g', cap', cur, e, e2, hb, h2, h3, h4, h5⟩
  · cases e
  · simp only [Value.slice.injEq, Option.some.injEq, Addr.mk.injEq, and_true, true_and] at e
    obtain ⟨rfl, rfl⟩ := e
    refine ⟨by rw [List.length_take, h0]; omega, Or.inr ⟨g, c', cur, rfl, e2, hb, hc, by unfold maxLen at h3 ⊢; omega, by omega, ?_⟩⟩
    rw [← h5, List.take_take]
    congr 1
    omega

theorem at_sb {ss : List ByteArray} {k : ByteArray} {i : Nat} {q : Bool} (hs : SrtS ss) (h : IsSb ss k i) (hq : q = true ↔ ss[i]? = some k) : (if q = true then i + 1 else i) = atI ss k := by
  obtain ⟨h0, h1, h2⟩ := h
  cases q
  · simp only [Bool.false_eq_true, if_false]
    refine atI_eq h0 (fun j s hj hsj => SL_asymm (h1 j s hj hsj)) (fun s hsi => ?_)
    rcases SL_tri s k with h | h | h
    · exact absurd h (h2 i s (Nat.le_refl _) hsi)
    · subst h; exact absurd (hq.2 hsi) (by simp)
    · exact h
  · simp only [if_true]
    have hk := hq.1 rfl
    obtain ⟨hil, he⟩ := List.getElem?_eq_some_iff.1 hk
    refine atI_eq (by omega) (fun j s hj hsj => ?_) (fun s hsi => ?_)
    · rcases Nat.lt_or_ge j i with h | h
      · exact SL_asymm (h1 j s h hsj)
      · obtain rfl : j = i := by omega
        rw [hk] at hsj; cases hsj; exact SL_irrefl _
    · obtain ⟨h3, rfl⟩ := List.getElem?_eq_some_iff.1 hsi
      rw [← he]
      exact List.pairwise_iff_getElem.1 hs i (i + 1) hil h3 (by omega)

set_option maxRecDepth 100000 in
theorem at_c (w : World) (b : Nat) (cs : List Ch) (ss : List ByteArray) (key : ByteArray) (L : List Nat) (h : ndR b cs ss w L) (hs : SrtS ss) (hl : ss.length ≤ 1000) :
    Calls Try.prog 35 #[.pointer (some ⟨b, 0, none⟩), .string key] w fun e w' => e = .returned (.int .i64 (atI ss key)) ∧ Mod [] w w' := by
  obtain ⟨kv, sv, Lk, Ls, hb, _, ho, _⟩ := h
  have b1 : w.cell? ⟨b, 1, none⟩ = some sv := hb.cell 1
  have HO := hid (Own.lx st_lays ho)
  have HS := hid hs
  have hbl := hb.lt
  clear hb ho hs
  go_enter Try.func35, Try.ntmps35
  go_wp2_with fail
  refine (bs_c w sv ss key HO.out HS.out (by omega)).mono ?_
  rintro e w1 ⟨i, q, rfl, hi, hq, hm⟩
  have HA := hid (at_sb HS.out hi hq)
  have Hm := hid hm
  clear hi hq hm b1
  cases q
  · go_wp2
    go_ret
    exact ⟨by have := HA.out; simp only [Bool.false_eq_true, if_false] at this; rw [this]; rfl, Hm.out⟩
  · have hi64 : (i : Int) + 1 ≤ 9223372036854775807 := by have := atI_le ss key; have := HA.out; simp only [if_true] at this; omega
    go_wp2
    go_ret
    exact ⟨by have := HA.out; simp only [if_true] at this; rw [← this]; simp, Hm.out⟩


theorem cdl1_c (w : World) (g cap : Nat) (l : List Ch) (i : Nat) (z : Int) (hz : z = (i : Int) + 1) (ho : Own w 60 1 (.slice (some ⟨g, 0, none⟩) l.length cap) l.length (flat chC l) [g]) (hi : i < l.length) (hl : l.length ≤ 1000000) :
    Calls Try.prog 68 #[.slice (some ⟨g, 0, none⟩) l.length cap, .int .i64 i, .int .i64 z] w fun e w' => e = .returned (.slice (some ⟨g, 0, none⟩) (l.length - 1) cap) ∧ Own w' 60 1 (.slice (some ⟨g, 0, none⟩) (l.length - 1) cap) (l.length - 1) (flat chC (l.eraseIdx i)) [g] ∧ Mod [g] w w' := by
  have h := cdl_c w g cap l i (i + 1) ho (by omega) (by omega) hl
  rw [show i + (l.length - (i + 1)) = l.length - 1 by omega, ← List.eraseIdx_eq_take_drop_succ] at h
  rw [hz]
  exact h

theorem sdl1_c (w : World) (g cap : Nat) (l : List ByteArray) (i : Nat) (z : Int) (hz : z = (i : Int) + 1) (ho : Own w 9 1 (.slice (some ⟨g, 0, none⟩) l.length cap) l.length (flat stC l) [g]) (hi : i < l.length) (hl : l.length ≤ 1000000) :
    Calls Try.prog 69 #[.slice (some ⟨g, 0, none⟩) l.length cap, .int .i64 i, .int .i64 z] w fun e w' => e = .returned (.slice (some ⟨g, 0, none⟩) (l.length - 1) cap) ∧ Own w' 9 1 (.slice (some ⟨g, 0, none⟩) (l.length - 1) cap) (l.length - 1) (flat stC (l.eraseIdx i)) [g] ∧ Mod [g] w w' := by
  have h := sdl_c w g cap l i (i + 1) ho (by omega) (by omega) hl
  rw [show i + (l.length - (i + 1)) = l.length - 1 by omega, ← List.eraseIdx_eq_take_drop_succ] at h
  rw [hz]
  exact h
/-- What cut leaves of the node. -/
theorem ndR.kids {w : World} {b : Nat} {cs : List Ch} {ss : List ByteArray} {L : List Nat} (h : ndR b cs ss w L) (hc : 0 < cs.length) : ∃ g cap, w.cell? ⟨b, 0, none⟩ = some (.slice (some ⟨g, 0, none⟩) cs.length cap) := by
  obtain ⟨kv, sv, Lk, Ls, hb, hk, _⟩ := h
  obtain ⟨a, cap, rfl, _, _, hg⟩ := hk.val
  obtain ⟨g, rfl, _⟩ := hg hc
  exact ⟨g, cap, hb.cell 0⟩

set_option maxRecDepth 100000 in
set_option maxHeartbeats 1000000 in
theorem cut_c (w : World) (b : Nat) (cs : List Ch) (ss : List ByteArray) (i j : Nat) (s : ByteArray) (L : List Nat) (h : ndR b cs ss w L) (hi : i < cs.length) (hj : ss[j]? = some s) (h1 : cs.length ≤ 1000) (h2 : ss.length ≤ 1000) :
    Calls Try.prog 57 #[.pointer (some ⟨b, 0, none⟩), .int .i64 i, .int .i64 j] w (Gives w L fun r w' L' => r = .string s ∧ ndR b (cs.eraseIdx i) (ss.eraseIdx j) w' L') := by
  obtain ⟨hjl, _⟩ := List.getElem?_eq_some_iff.1 hj
  have HH := hid (Hld.start h)
  obtain ⟨kv, sv, Lk, Ls, hb, hk, hs, h4, h5, h6, rfl⟩ := h
  obtain ⟨a, cap, rfl, hnc, hcc, hg⟩ := hk.val
  obtain ⟨g, rfl, rfl, _⟩ := hg (by omega)
  obtain ⟨a', cap', rfl, hnc', hcc', hg'⟩ := hs.val
  obtain ⟨g', rfl, rfl, hcells⟩ := hg' (by omega)
  have b0 : w.cell? ⟨b, 0, none⟩ = some (.slice (some ⟨g, 0, none⟩) cs.length cap) := hb.cell 0
  have b1 : w.cell? ⟨b, 1, none⟩ = some (.slice (some ⟨g', 0, none⟩) ss.length cap') := hb.cell 1
  have hbl := hb.lt
  have c1 : w.cell? ⟨g', j, none⟩ = some (.string s) := by
    rw [hcells j (by omega)]
    have := flat_at st_lays ss j s hj 0 (by decide)
    simpa [stC] using this
  have hi1 : (i : Int) + 1 ≤ 9223372036854775807 := by omega
  have hj1 : (j : Int) + 1 ≤ 9223372036854775807 := by omega
  have hjl2 : (j : Int) < (ss.length : Int) := by omega
  have hj0 : (0 : Int) ≤ (j : Int) := by omega
  have f0 := hb.free 0
  have f1 := hb.free 1
  have HK := hid hk
  have HS := hid hs
  have HB := hid hb
  have Hd := hid (⟨h4, h5, h6⟩ : _ ∧ _ ∧ _)
  clear hb hk hs hcells hg hg' hj h4 h5 h6 HH
  go_enter Try.func57, Try.ntmps57
  go_wp2_with fail
  refine (cdl1_c w g cap cs i _ rfl HK.out hi (by omega)).mono ?_
  rintro e w1 ⟨rfl, hk1, hm1⟩
  have Hk1 := hid hk1
  have Hm1 := hid hm1
  have hbg : b ∉ [g] := Hd.out.1
  have hB1 := hm1.blk HB.out hbg
  have HS1 := hid (HS.out.mod hm1 (fun k hk h => Hd.out.2.2 k h hk))
  have b0' := hB1.cell 0
  have b1' := hB1.cell 1
  have f0' := hB1.free 0
  have HB1 := hid (hB1.set 0 (.slice (some ⟨g, 0, none⟩) (cs.length - 1) cap))
  have hbl1 := hB1.lt
  simp only [List.getElem?_toArray, List.getElem?_cons_zero, List.getElem?_cons_succ] at b0' b1'
  clear hk1 hm1 hB1 b0 b1 c1 f0 f1
  have Hms : Hid (Mod [b] w1 (w1.setCell ⟨b, 0, none⟩ (.slice (some ⟨g, 0, none⟩) (cs.length - 1) cap))) := (Mod.refl [b] w1).setCell (by simp) _
  have HK2 := hid (Hk1.out.mod Hms.out (fun k hk h => by simp at hk h; exact hbg (by simp [← hk, h])))
  have HS2 := hid (HS1.out.mod Hms.out (fun k hk h => by simp at hk h; exact Hd.out.2.1 (by simp [← hk, h])))
  clear hbg
  go_wp2_with fail
  refine (sdl1_c _ g' cap' ss j _ rfl HS2.out hjl (by omega)).mono ?_
  rintro e w2 ⟨rfl, hs2, hm2⟩
  have Hs2 := hid hs2
  have Hm2 := hid hm2
  have hB2 := hm2.blk HB1.out Hd.out.2.1
  have b0'' := hB2.cell 0
  have b1'' := hB2.cell 1
  have f1'' := hB2.free 1
  have hbl2 := hB2.lt
  have HB2 := hid (hB2.set 1 (.slice (some ⟨g', 0, none⟩) (ss.length - 1) cap'))
  have HK3 := hid (HK2.out.mod hm2 (fun k hk h => Hd.out.2.2 k hk h))
  have HK4 := hid (HK3.out.mod ((Mod.refl [b] w2).setCell (p := ⟨b, 1, none⟩) (by simp) (.slice (some ⟨g', 0, none⟩) (ss.length - 1) cap')) (fun k hk h => by simp at hk h; exact Hd.out.1 (by simp [← hk, h])))
  have HS4 := hid (hs2.mod ((Mod.refl [b] w2).setCell (p := ⟨b, 1, none⟩) (by simp) (.slice (some ⟨g', 0, none⟩) (ss.length - 1) cap')) (fun k hk h => by simp at hk h; exact Hd.out.2.1 (by simp [← hk, h])))
  have HM4 : Hid (Mod (b :: ([g] ++ [g'])) w (w2.setCell ⟨b, 1, none⟩ (.slice (some ⟨g', 0, none⟩) (ss.length - 1) cap'))) :=
    (((Hm1.out.mono (by simp)).tr (Hms.out.mono (by simp))).tr (hm2.mono (by simp))).tr (((Mod.refl [b] w2).setCell (p := ⟨b, 1, none⟩) (by simp) _).mono (by simp))
  simp only [List.getElem?_toArray, List.getElem?_cons_zero, List.getElem?_cons_succ, Array.getElem?_setIfInBounds] at b0'' b1''
  clear hs2 hm2 hB2 b0' b1' f0'
  go_wp2
  go_ret
  refine ⟨_, rfl, b :: ([g] ++ [g']), ⟨rfl, _, _, [g], [g'], HB2.out, ?_, ?_, Hd.out.1, Hd.out.2.1, Hd.out.2.2, rfl⟩, HM4.out, fun k hk => Or.inl hk⟩
  · rw [List.length_eraseIdx_of_lt hi]; exact HK4.out
  · rw [List.length_eraseIdx_of_lt hjl]; exact HS4.out

theorem six {α : Type} {l : List α} (h : l.length = 6) : ∃ a b c d e f, l = [a, b, c, d, e, f] := by
  match l, h with
  | [a, b, c, d, e, f], _ => exact ⟨a, b, c, d, e, f, rfl⟩
set_option maxRecDepth 100000 in
set_option maxHeartbeats 1000000 in
theorem split_c (w : World) (b : Nat) (cs : List Ch) (ss : List ByteArray) (L : List Nat) (h : ndR b cs ss w L) (h1 : cs.length = 6) (h2 : ss.length = 5) (sep : ByteArray) (hsep : ss[2]? = some sep) :
    Calls Try.prog 61 #[.pointer (some ⟨b, 0, none⟩)] w (Gives w L fun r w' L' => ∃ b', r = .tuple #[.pointer (some ⟨b', 0, none⟩), .string sep] ∧ star (ndR b (cs.take 3) (ss.take 2)) (ndR b' (cs.drop 3) (ss.drop 3)) w' L') := by
  obtain ⟨kv, sv, Lk, Ls, hb, hk, hs, h4, h5, h6, rfl⟩ := h
  obtain ⟨a, cap, rfl, hnc, hcc, hg⟩ := hk.val
  obtain ⟨g, rfl, rfl, _⟩ := hg (by omega)
  obtain ⟨a', cap', rfl, hnc', hcc', hg'⟩ := hs.val
  obtain ⟨g', rfl, rfl, hcells⟩ := hg' (by omega)
  have c2 : w.cell? ⟨g', 2, none⟩ = some (.string sep) := by
    rw [hcells 2 (by omega)]
    have := flat_at st_lays ss 2 sep hsep 0 (by decide)
    simpa [stC] using this
  have hX1 := hid ((Own.lx ch_lays hk).drop (k := 3) (by omega) 3 (cap - 3) (by omega))
  have hX2 := hid ((Own.lx st_lays hs).drop (k := 3) (by omega) 2 (cap' - 3) (by omega))
  rw [h1] at hk hnc
  rw [h2] at hs hnc'
  have b0 : w.cell? ⟨b, 0, none⟩ = some (.slice (some ⟨g, 0, none⟩) 6 cap) := by have := hb.cell 0; rw [h1] at this; exact this
  have b1 : w.cell? ⟨b, 1, none⟩ = some (.slice (some ⟨g', 0, none⟩) 5 cap') := by have := hb.cell 1; rw [h2] at this; exact this
  have hbl := hb.lt
  have hgl : g < w.heap.size := hk.lt g (by simp)
  have hgl' : g' < w.heap.size := hs.lt g' (by simp)
  have f0 := hb.free 0
  have f1 := hb.free 1
  have HK := hid hk
  have HS := hid hs
  have HB := hid hb
  have Hd := hid (⟨h4, h5, h6⟩ : _ ∧ _ ∧ _)
  have hd1 : (cs.drop 3).length = 3 := by simp; omega
  have hd2 : (ss.drop 3).length = 2 := by simp; omega
  have hc3 : ¬ cap = 3 := by omega
  have hc3' : ¬ cap' = 3 := by omega
  have hc5 : (3 : Int) ≤ (cap : Int) := by omega
  have hc6 : (2 : Int) ≤ (cap' : Int) := by omega
  clear hb hk hs hcells hg hg' hsep h4 h5 h6
  go_enter Try.func61, Try.ntmps61
  go_upto_region 2 with (fail)
  go_region_held3 (fun X => Mod [] w X ∧ X.cell? ⟨b, 0, none⟩ = some (.slice (some ⟨g, 0, none⟩) 6 cap) ∧ X.cell? ⟨b, 1, none⟩ = some (.slice (some ⟨g', 0, none⟩) 5 cap'))
    (first
      | exact ⟨(Mod.refl [] w).drew, b0, b1⟩
      | assumption
      | exact ⟨Mod.tr (And.left ‹Mod [] w _ ∧ _›) hm1, hm1.cellSome (And.left (And.right ‹Mod [] w _ ∧ _›)) (by simp), hm1.cellSome (And.right (And.right ‹Mod [] w _ ∧ _›)) (by simp)⟩
      | exact ⟨Mod.tr (And.left ‹Mod [] w _ ∧ _›) hm2, hm2.cellSome (And.left (And.right ‹Mod [] w _ ∧ _›)) (by simp), hm2.cellSome (And.right (And.right ‹Mod [] w _ ∧ _›)) (by simp)⟩
      | exact ⟨Mod.alloc (And.left ‹Mod [] w _ ∧ _›) _, ((Mod.refl [] _).alloc _).cellSome (And.left (And.right ‹Mod [] w _ ∧ _›)) (by simp), ((Mod.refl [] _).alloc _).cellSome (And.right (And.right ‹Mod [] w _ ∧ _›)) (by simp)⟩
      | fail)
    (first
      | (go_at_call 74; (refine (ch_clone _ g (0 + 3 * 1) 3 (cap - 3) (cs.drop 3) (hX1.out.mod (And.left ‹Mod [] w _ ∧ _›)) hd1 (by omega)).mono ?_); rintro e w1 ⟨v1, L1, rfl, ho1, hm1, hf1⟩; obtain ⟨a1, q1, rfl, _, _, _⟩ := ho1.val)
      | (go_at_call 75; (refine (st_clone _ g' (0 + 3 * 1) 2 (cap' - 3) (ss.drop 3) (hX2.out.mod (And.left ‹Mod [] w _ ∧ _›)) hd2 (by omega)).mono ?_); rintro e w2 ⟨v2, L2, rfl, ho2, hm2, hf2⟩; obtain ⟨a2, q2, rfl, _, _, _⟩ := ho2.val)
      | fail)
  have hHeld := ‹Mod [] w (w2.alloc (.cells #[.slice a1 3 q1, .slice a2 2 q2] 72)) ∧ _›
  have HBn := hid (Blk.new w2 #[.slice a1 3 q1, .slice a2 2 q2] 72)
  have hma : Mod [] w2 (w2.alloc (.cells #[.slice a1 3 q1, .slice a2 2 q2] 72)) := (Mod.refl [] w2).alloc _
  have HO1 := hid ((ho1.mod hm2 (by simp)).mod hma (by simp))
  have HO2 := hid (ho2.mod hma (by simp))
  have HM3 := hid hHeld.1
  have b0' := hHeld.2.1
  have b1' := hHeld.2.2
  have c2' := hHeld.1.cellSome c2 (by simp)
  have hB3 := hHeld.1.blk HB.out (by simp)
  have f0' := hB3.free 0
  have f1' := hB3.free 1
  have hbl' := hB3.lt
  have HB3 := hid hB3
  have Hlt := hid (⟨hf1, hf2, hm2.size, hm1.size, ho1.lt, ho2.lt⟩ : _ ∧ _ ∧ _ ∧ _ ∧ _ ∧ _)
  have HK3 := hid (HK.out.mod hHeld.1 (by simp))
  have HS3 := hid (HS.out.mod hHeld.1 (by simp))
  have HD1 := hid hd1
  have HD2 := hid hd2
  clear hHeld hma ho1 ho2 hB3 b0 b1 c2 f0 f1 HB HK HS hf1 hf2 hd1 hd2 hX1 hX2
  generalize w2.alloc (.cells #[.slice a1 3 q1, .slice a2 2 q2] 72) = W at *
  generalize hn : w2.heap.size = n at *
  go_upto_region 4 with (fail)
  go_region
  all_goals
    have hms : Mod [b] W ((W.setCell ⟨b, 0, none⟩ (.slice (some ⟨g, 0, none⟩) 3 3)).setCell ⟨b, 1, none⟩ (.slice (some ⟨g', 0, none⟩) 2 2)).drew := (((Mod.refl [b] W).setCell (by simp) _).setCell (by simp) _).drew
    have HMs := hid hms
    have HBf := hid (((HB3.out.set 0 (.slice (some ⟨g, 0, none⟩) 3 3)).set 1 (.slice (some ⟨g', 0, none⟩) 2 2)).drew)
    clear hms
    go_wp2
    go_ret2
    obtain ⟨g1, g2, g3⟩ := Hd.out
    obtain ⟨x1, x2, x3, x4, x5, x6⟩ := Hlt.out
    have x4' : w.heap.size ≤ w1.heap.size := x4
    have hbn : b < n := by omega
    refine ⟨_, rfl, (b :: ([g] ++ [g'])) ++ (n :: (L1 ++ L2)), ⟨n, rfl, _, _, ⟨_, _, [g], [g'], HBf.out, ?_, ?_, g1, g2, g3, rfl⟩, ⟨_, _, L1, L2, HMs.out.blk HBn.out (by simp; omega), ?_, ?_, ?_, ?_, ?_, rfl⟩, rfl, ?_⟩, ?_, ?_⟩
    · have h := HK3.out.cutcap (k := 3) (by omega) 3 (by omega) (by omega)
      rw [← flat_take ch_lays] at h
      have e : (cs.take 3).length = 3 := by simp; omega
      rw [e]
      exact h.mod HMs.out (fun k hk h => by simp at hk h; exact g1 (by simp [← hk, h]))
    · have h := HS3.out.cutcap (k := 2) (by omega) 2 (by omega) (by omega)
      rw [← flat_take st_lays] at h
      have e : (ss.take 2).length = 2 := by simp; omega
      rw [e]
      exact h.mod HMs.out (fun k hk h => by simp at hk h; exact g2 (by simp [← hk, h]))
    · have h := HO1.out
      rw [HD1.out] at h ⊢
      exact h.mod HMs.out (fun k hk h => by simp at h; have := x1 k hk; have : w.heap.size ≤ k := this; omega)
    · have h := HO2.out
      rw [HD2.out] at h ⊢
      exact h.mod HMs.out (fun k hk h => by simp at h; have := x2 k hk; omega)
    · intro h; have := x5 n h; omega
    · intro h; have := x6 n h; omega
    · intro k hk h; have := x5 k hk; have := x2 k h; omega
    · intro k hk h
      have hk' : k < w.heap.size := by
        simp at hk
        rcases hk with rfl | rfl | rfl
        · exact hbl
        · exact hgl
        · exact hgl'
      rcases List.mem_cons.1 h with rfl | h
      · omega
      · rcases List.mem_append.1 h with h | h
        · have : w.heap.size ≤ k := x1 k h; omega
        · have := x2 k h; omega
    · exact (HM3.out.mono (by simp)).tr (HMs.out.mono (by simp))
    · intro k hk
      rcases List.mem_append.1 hk with h | h
      · exact Or.inl h
      · right
        rcases List.mem_cons.1 h with rfl | h
        · omega
        · rcases List.mem_append.1 h with h | h
          · exact x1 k h
          · have := x2 k h; omega
end Go.Proofs.Ythofkkmnngmafaa
