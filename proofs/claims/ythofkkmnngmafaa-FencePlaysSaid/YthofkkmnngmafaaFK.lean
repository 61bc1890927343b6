/- A fence in memory: New, Find. -/
import Derived.Test.YthofkkmnngmafaaFG
namespace Go.Proofs.Ythofkkmnngmafaa
set_option linter.unusedVariables false
set_option linter.unusedSimpArgs false
set_option linter.unusedSectionVars false
open Go.RowKit

/-- A fence, at block fb. -/
def feR (fb : Nat) (f : Fc) : Res := fun w L => ∃ c, star (boxR fb #[chV c, .int .i64 (f.lv.length : Nat)] 62) (trR f.d f.t c) w L
theorem feR_keep (fb : Nat) (f : Fc) : Keep (feR fb f) where
  lt := by rintro w L ⟨c, h⟩ k hk; exact Keep.lt h k hk
  mod := by rintro w w' L M ⟨c, h⟩ hm hd; exact ⟨c, Keep.mod h hm hd⟩
instance (fb : Nat) (f : Fc) : Keep (feR fb f) := feR_keep fb f
def fe0 (p : Nat) : Fc := ⟨0, p⟩

set_option maxRecDepth 100000 in
theorem fnew_nil (w : World) : Calls Try.prog 9 #[.int .u64 0] w fun e w' => e = .returned (.pointer none) ∧ w = w' := by
  go_enter Try.func9, Try.ntmps9
  go_wp2
  go_ret
  exact ⟨rfl, rfl⟩
set_option maxRecDepth 100000 in
theorem fnew_c (w : World) (p : Nat) (hp : p ≠ 0) : Calls Try.prog 9 #[.int .u64 p] w (Gives w [] fun r w' L' => r = .pointer (some ⟨w.heap.size, 0, none⟩) ∧ feR w.heap.size (fe0 p) w' L') := by
  have h0 : ((p : Int) == 0) = false := beq_eq_false_iff_ne.2 (by omega)
  have HB := hid (Blk.new w #[chV (.lf p), .int .i64 1] 62)
  clear hp
  go_enter Try.func9, Try.ntmps9
  go_wp2
  go_ret
  exact ⟨_, rfl, [w.heap.size] ++ [], ⟨rfl, .lf p, [w.heap.size], [], ⟨HB.out, rfl⟩, ⟨rfl, rfl⟩, rfl, by simp⟩, (Mod.refl [] w).alloc _, by simp⟩

set_option maxRecDepth 100000 in
set_option maxHeartbeats 1000000 in
theorem find_c (w : World) (fb : Nat) (f : Fc) (key : ByteArray) (L : List Nat) (h : feR fb f w L) (hg : Good f) :
    Calls Try.prog 15 #[.pointer (some ⟨fb, 0, none⟩), .string key] w fun e w' => e = .returned (.int .u64 (findT f.d f.t key : Nat)) ∧ Mod [] w w' := by
  obtain ⟨c, L1, L2, ⟨hb, rfl⟩, ht, rfl, hd⟩ := h
  have b0 := hb.cell 0
  have hbl := hb.lt
  simp only [List.getElem?_toArray, List.getElem?_cons_zero] at b0
  have q1 := ta_nl
  have q2 := ta_nn
  have q3 := ta_ll
  have q4 := ta_ln
  have HT := hid ht
  have HF := hid hg.fan
  have HS := hid hg.srt
  clear hb ht hd hg
  go_enter Try.func15, Try.ntmps15
  go_wp2
  go_loopg [5] f.d (fun g p wr => ∃ (d : Nat) (t : Tr d) (c : Ch) (L : List Nat) (s : ByteArray), p = chV c ∧ d ≤ g ∧ Hid (trR d t c wr L ∧ Fan d t ∧ SrtL (lv d t s)) ∧ Hid (findT d t key = findT f.d f.t key) ∧ Hid (Mod [] w wr))
  · exact ⟨f.d, f.t, c, L2, mt, rfl, Nat.le_refl _, ⟨HT.out, HF.out, HS.out⟩, rfl, Mod.refl _ _⟩
  · obtain ⟨d, t, c, L, s, rfl, hdg, hR, hfd, hM⟩ := hrel
    cases d with
    | zero =>
      obtain ⟨⟨rfl, _⟩, _⟩ := hR.out
      have HE : Hid (t = findT f.d f.t key) := hfd.out
      clear hR hfd
      rw [show chV (.lf t) = .iface 58 (.int .u64 (t : Nat)) from rfl]
      go_wp2
      go_ret
      exact ⟨by rw [HE.out]; rfl, hM.out⟩
    | succ d =>
      obtain ⟨⟨b, cs, rfl, Ln, La, hn, hall, _⟩, hF, hS⟩ := hR.out
      rw [show chV (.nd b) = .iface 65 (.pointer (some ⟨b, 0, none⟩)) from rfl]
      have hcl := allR_len hall
      have hlen := hF.2.2.1
      have hl5 := hF.2.1
      obtain ⟨i, hi⟩ : ∃ i, i = atI t.2 key := ⟨_, rfl⟩
      have hil : i < t.1.length := by have := atI_le t.2 key; omega
      obtain ⟨x, hx⟩ : ∃ x, t.1[i]? = some x := ⟨_, List.getElem?_eq_getElem hil⟩
      obtain ⟨ci, hci⟩ : ∃ ci, cs[i]? = some ci := ⟨_, List.getElem?_eq_getElem (by omega)⟩
      obtain ⟨A, B, SA, sc, SB, hC⟩ := cut_at s hlen hx
      have hat := fun X (hX : Mod [] wr X) => at_c X b cs t.2 key Ln (Keep.mod hn hX (by simp)) (seps_srt hF.one hS) (by omega)
      rw [← hi] at hat
      have Hat := hid hat
      have e1 := hC.ks
      have hsc : SrtL (lv d x sc) := by
        have h := hS
        rw [hC.lv] at h
        exact (List.pairwise_append.1 (List.pairwise_append.1 h).2.1).1
      have hFx : Fan d x := hF.2.2.2 x (List.mem_of_getElem? hx)
      obtain ⟨Lx, hLx⟩ : ∃ Lx, trR d x ci wr Lx := by
        obtain ⟨e2, e2l⟩ : cs = cs.take i ++ ci :: cs.drop (i + 1) ∧ (cs.take i).length = i := by
          obtain ⟨hj, e⟩ := List.getElem?_eq_some_iff.1 hci
          exact ⟨by rw [← e, ← List.drop_eq_getElem_cons hj, List.take_append_drop], by simp; omega⟩
        rw [e1, e2] at hall
        obtain ⟨L', ⟨La1, _, h1, _⟩, _⟩ := ent_mid (trR d) x ci B (cs.drop (i + 1)) A (cs.take i) (by rw [hC.la, e2l]) wr La hall
        exact ⟨La1, h1⟩
      obtain ⟨g, cap, c0, c0i⟩ := hn.kid hci
      have hbl2 := hn.lt
      have hi1 : (i : Int) < (cs.length : Int) := by omega
      have hi0 : (0 : Int) ≤ (i : Int) := by omega
      have HX := hid (⟨hLx, hFx, hsc⟩ : _ ∧ _ ∧ _)
      have Hfd : Hid (findT d x key = findT f.d f.t key) := by
        show _ = _
        rw [← hfd.out]
        simp only [findT]
        rw [← hi, hx]
      clear hn hall hF hS hcl hlen hl5 hi hil hx hci hC hat e1 hsc hFx hLx hR hfd
      go_upto_region 7 with (fail)
      go_region_held3 (fun X => Mod [] wr X ∧ X.cell? ⟨b, 0, none⟩ = some (.slice (some ⟨g, 0, none⟩) cs.length cap) ∧ X.cell? ⟨g, i, none⟩ = some (chV ci))
        (first
          | exact ⟨(Mod.refl [] wr).drew, c0, c0i⟩
          | assumption
          | exact ⟨Mod.tr (And.left ‹Mod [] wr _ ∧ _›) hm, hm.cellSome (And.left (And.right ‹Mod [] wr _ ∧ _›)) (by simp), hm.cellSome (And.right (And.right ‹Mod [] wr _ ∧ _›)) (by simp)⟩
          | fail)
        (first
          | (go_at_call 35; refine (Hat.out _ (And.left ‹Mod [] wr _ ∧ _›)).mono ?_; rintro e w' ⟨rfl, hm⟩)
          | fail)
      have hMM := And.left ‹Mod [] wr _ ∧ _›
      go_wp2
      go_roundg (gk - 1)
      case measure => omega
      case rel => exact ⟨d, x, ci, Lx, sc, rfl, by omega, ⟨Keep.mod HX.out.1 hMM (by simp), HX.out.2⟩, Hfd.out, hM.out.tr hMM⟩
end Go.Proofs.Ythofkkmnngmafaa
