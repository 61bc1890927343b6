/- The reference: Cut. -/
import Derived.Test.YtmdomihpohekiaaVN
namespace Go.Proofs.Ytmdomihpohekiaa
set_option linter.unusedVariables false
set_option linter.unusedSimpArgs false
set_option linter.unusedSectionVars false
open Go.RowKit

/-- What is left of the first k. -/
def leftB (p : Vr → Bool) (l : List Vr) (k : Nat) : List Vr := if mayB l then keepB p (l.take k) else l.take k
theorem leftB_len (p : Vr → Bool) (l : List Vr) (k : Nat) : (leftB p l k).length ≤ l.length := by
  unfold leftB
  split
  · exact Nat.le_trans (keep_len _ _) (by simp; omega)
  · simp; omega
theorem leftB_zero (p : Vr → Bool) (l : List Vr) : leftB p l 0 = [] := by simp [leftB, keepB]
theorem leftB_all (p : Vr → Bool) (l : List Vr) : leftB p l l.length = withoutB p l := by simp [leftB, withoutB]
theorem leftB_put (p : Vr → Bool) (l : List Vr) (k : Nat) (x : Vr) (hx : l[k]? = some x) (hp : mayB l = false ∨ p x = false) : leftB p l (k + 1) = leftB p l k ++ [x] := by
  unfold leftB
  rcases hp with h | h
  · rw [h]; simp [List.take_add_one, hx]
  · split
    · rw [keep_step p l k x hx, h]; simp
    · simp [List.take_add_one, hx]
theorem leftB_drop (p : Vr → Bool) (l : List Vr) (k : Nat) (x : Vr) (hx : l[k]? = some x) (h : mayB l = true) (hp : p x = true) : leftB p l (k + 1) = leftB p l k := by
  unfold leftB
  rw [h, keep_step p l k x hx, hp]; simp

set_option maxRecDepth 100000 in
set_option maxHeartbeats 4000000 in
theorem rcut_c (w : World) (v : Value) (l : List Vr) (t : Nat) (h : Lv w v l) (hl : l.length ≤ 1000000) :
    Calls Try.prog 18 #[v, .int .u64 t] w (OwnSays w (withoutB (tsP t) l)) := by
  have H := hid h
  obtain ⟨a, cap, rfl, _, hlen⟩ := h
  go_enter Try.func18, Try.ntmps18
  go_wp2
  go_loopg [5, 6] l.length (fun g q i wr => ∃ (k : Nat) (L : List Nat), i = .int .i64 k ∧ k + g = l.length ∧ Hid (Own wr 25 5 q (leftB (tsP t) l k).length (vsC (leftB (tsP t) l k)) L) ∧ Hid (Mod [] w wr) ∧ Hid (∀ y ∈ L, w.heap.size ≤ y))
  · exact ⟨0, [], rfl, by omega, by rw [leftB_zero]; exact Own.nil _ _ _, Mod.refl _ _, hid (by simp)⟩
  · obtain ⟨k, L, rfl, hk, ho, hM, hF⟩ := hrel
    have hleft := leftB_len (tsP t) l k
    obtain ⟨a3, cp, hv3, _⟩ := ho.out.val
    subst hv3
    by_cases hlt : k < l.length
    · obtain ⟨x, hx⟩ : ∃ x, l[k]? = some x := ⟨_, List.getElem?_eq_getElem hlt⟩
      have Hx := hid hx
      clear hx
      have hki : (k : Int) < (l.length : Int) := by omega
      obtain ⟨b, off, rfl, c0, c1, c2, c3, c4⟩ := (H.out.mod hM.out).at Hx.out
      have hone : ∀ u ∈ vsC [x], u.oneCell' = true := vsC_one _
      by_cases hts : x.ts = t
      · have hE : ((x.ts : Int) != (t : Int)) = false := by simp; omega
        have Hts := hid hts
        clear hts
        go_wp2_with fail
        refine (rmay_c _ _ l (H.out.mod hM.out)).mono ?_
        rintro e w2 ⟨rfl, hm⟩
        have hM2 := hid (hM.out.tr hm)
        have ho2 := hid (ho.out.mod hm (by simp))
        obtain ⟨b', off', e, d0, d1, d2, d3, d4⟩ := (H.out.mod hM2.out).at Hx.out
        simp only [Option.some.injEq, Addr.mk.injEq, and_true] at e
        obtain ⟨rfl, rfl⟩ := e
        clear hm c0 c1 c2 c3 c4
        cases hmay : mayB l
        · have hP := hid (leftB_put (tsP t) l k x Hx.out (Or.inl hmay))
          have hrd : Hid (Rdl (w2.alloc (.cells #[.int .u64 x.ts, .int .u64 x.ln, .bool x.dl, .string x.vl, .bool x.ak] 25)) 5 (.slice (some ⟨w2.heap.size, 0, none⟩) 1 1) 1 (vsC [x])) := vsC_one_rdl _ _ _ (Blk.new w2 _ _)
          have hoA := hid (ho2.out.mod ((Mod.refl [] w2).alloc (.cells #[.int .u64 x.ts, .int .u64 x.ln, .bool x.dl, .string x.vl, .bool x.ak] 25)) (by simp))
          have hmA := hid (hM2.out.alloc (.cells #[.int .u64 x.ts, .int .u64 x.ln, .bool x.dl, .string x.vl, .bool x.ak] 25))
          clear hmay
          go_wp2_with (at_builtin; refine wpList_append_rdl rfl (.tmp 25) (.tmp 30) 22 25 rfl Try.underlying22 elem_ver rfl (by decide) rfl hoA.out rfl hrd.out hone (by omega) (by omega) ?_; intro v5 w5 L5 g1 g2 g3)
          go_roundg (gk - 1)
          case measure => omega
          case rel =>
            refine ⟨k + 1, L5, by go_num, by omega, ?_, hmA.out.fresh g2.out hF.out, fun y hy => (g3.out y hy).elim (hF.out y) (Nat.le_trans hmA.out.size)⟩
            show Own _ _ _ _ _ _ _
            rw [hP.out, vsC_append, List.length_append]
            exact g1.out
        · have hP := hid (leftB_drop (tsP t) l k x Hx.out hmay (by simp [tsP, Hts.out]))
          clear hmay
          go_wp2
          go_roundg (gk - 1)
          case measure => omega
          case rel => exact ⟨k + 1, L, by go_num, by omega, hid (by rw [hP.out]; exact ho2.out), hM2, hF⟩
      · have hE : ((x.ts : Int) != (t : Int)) = true := by simp; omega
        have hP := hid (leftB_put (tsP t) l k x Hx.out (Or.inr (by simp [tsP, hts])))
        have hrd : Hid (Rdl (wr.alloc (.cells #[.int .u64 x.ts, .int .u64 x.ln, .bool x.dl, .string x.vl, .bool x.ak] 25)) 5 (.slice (some ⟨wr.heap.size, 0, none⟩) 1 1) 1 (vsC [x])) := vsC_one_rdl _ _ _ (Blk.new wr _ _)
        have hoA := hid (ho.out.mod ((Mod.refl [] wr).alloc (.cells #[.int .u64 x.ts, .int .u64 x.ln, .bool x.dl, .string x.vl, .bool x.ak] 25)) (by simp))
        have hmA := hid (hM.out.alloc (.cells #[.int .u64 x.ts, .int .u64 x.ln, .bool x.dl, .string x.vl, .bool x.ak] 25))
        go_wp2_with (at_builtin; refine wpList_append_rdl rfl (.tmp 25) (.tmp 30) 22 25 rfl Try.underlying22 elem_ver rfl (by decide) rfl hoA.out rfl hrd.out hone (by omega) (by omega) ?_; intro v5 w5 L5 g1 g2 g3)
        go_roundg (gk - 1)
        case measure => omega
        case rel =>
          refine ⟨k + 1, L5, by go_num, by omega, ?_, hmA.out.fresh g2.out hF.out, fun y hy => (g3.out y hy).elim (hF.out y) (Nat.le_trans hmA.out.size)⟩
          show Own _ _ _ _ _ _ _
          rw [hP.out, vsC_append, List.length_append]
          exact g1.out
    · obtain rfl : k = l.length := by omega
      go_wp2
      go_ret
      refine ⟨_, L, rfl, ?_, hM.out, hF.out⟩
      rw [← leftB_all]
      exact ho.out

end Go.Proofs.Ytmdomihpohekiaa
