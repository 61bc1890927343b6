/- slices.Delete. -/
import Derived.Test.YthofkkmnngmafaaK8
import Derived.Test.YthofkkmnngmafaaFI2
namespace Go.Proofs.Ythofkkmnngmafaa
set_option linter.unusedVariables false
set_option linter.unusedSimpArgs false
set_option linter.unusedSectionVars false
open Go.RowKit

/-- What Delete leaves. -/
def sdlSays (w : World) (g n cap : Nat) (l : List ByteArray) (e : Ending) (w' : World) : Prop :=
  e = .returned (.slice (some ⟨g, 0, none⟩) n cap) ∧ Own w' 9 1 (.slice (some ⟨g, 0, none⟩) n cap) n (flat stC l) [g] ∧ Mod [g] w w'

theorem sdl_zero (w : World) : (zeroValue 9).run Try.prog w = .ok (.string ⟨#[]⟩) w := by kernel_rfl

set_option maxRecDepth 100000 in
set_option maxHeartbeats 4000000 in
theorem sdl_c (w : World) (g cap : Nat) (l : List ByteArray) (i j : Nat) (ho : Own w 9 1 (.slice (some ⟨g, 0, none⟩) l.length cap) l.length (flat stC l) [g]) (hi : i < j) (hj : j ≤ l.length) (hl : l.length ≤ 1000000) :
    Calls Try.prog 69 #[.slice (some ⟨g, 0, none⟩) l.length cap, .int .i64 i, .int .i64 j] w (sdlSays w g (i + (l.length - j)) cap (l.take i ++ l.drop j)) := by
  have HO := hid ho
  obtain ⟨_, _, hnc, hcap⟩ := ho.blk
  have Hone := hid (flat_one st_lays l)
  have hij : ¬ ((i : Int) = (j : Int)) := by omega
  have hz1 : ¬ (cap = i) := by omega
  have hi2 : (i : Int) ≤ (j : Int) := by omega
  have hj2 : (j : Int) ≤ (l.length : Int) := by omega
  have hn2 : (l.length : Int) ≤ (cap : Int) := by omega
  have hi3 : (0 : Int) ≤ (i : Int) := by omega
  have hj3 : (j : Int) ≤ (cap : Int) := by omega
  have hi4 : (i : Int) ≤ (cap : Int) := by omega
  have hroom : i + (l.length - j) ≤ cap := by omega
  have hsum : (((i + (l.length - j) : Nat)) : Int) ≤ (l.length : Int) := by omega
  have HR : Hid (flat stC (l.take i ++ l.drop j) = (flat stC l).take (i) ++ (flat stC l).drop j) := by
    show _ = _
    have h1 := flat_take st_lays l i
    have h2 := flat_drop st_lays l j
    rw [Nat.mul_one] at h1 h2
    rw [← h1, ← h2]; simp [flat]
  obtain ⟨R, hR⟩ : ∃ R, l.take i ++ l.drop j = R := ⟨_, rfl⟩
  rw [hR] at HR ⊢
  obtain ⟨N, hN⟩ : ∃ N, i + (l.length - j) = N := ⟨_, rfl⟩
  have HN := hid hN
  rw [hN] at hsum hroom ⊢
  have hcN : ¬ cap = N := by omega
  have hNi : (N : Int) ≤ (l.length : Int) := by omega
  have hNn : N ≤ l.length := by omega
  clear hR ho hN hsum
  have hBeg := hid (HO.out.begin (k := i) (by omega))
  go_enter Try.func69, Try.ntmps69
  rcases (by omega : (cap = l.length ∧ j = l.length) ∨ cap ≠ j) with ⟨rfl, rfl⟩ | hcj
  · obtain rfl : i = N := by have := HN.out; omega
    have hEnd : Hid (Rdl w.drew 1 (.slice (some ⟨g, 0, none⟩) 0 0) 0 []) := ⟨by simp, Or.inr ⟨g, 0, 0, rfl, fun j h => by omega⟩⟩
    replace HR : Hid (flat stC R = (flat stC l).take (i)) := by
      show _ = _
      rw [HR.out, List.drop_of_length_le (by rw [flat_len st_lays]; omega), List.append_nil]
    clear HN
    go_upto_region 5 with (fail)
    go_region_law (refine step_append_room rfl (.tmp 22) (.tmp 25) 23 9 rfl Try.underlying23 sin_el g i l.length _ (by simp [Act.eval, Act.put]) hBeg.out _ (by simp [Act.eval, Act.put]) 0 [] hEnd.out (by intro u hu; cases hu) (by omega) ?_; intro w2 ho2 hm2)
    have ho3 := ho2.out
    rw [Nat.add_zero, List.append_nil, Nat.mul_one, ← HR.out] at ho3
    try rw [Nat.add_zero]
    obtain ⟨cur, hcb, hcs⟩ : ∃ cur, Blk w2 g cur 9 ∧ l.length * 1 ≤ cur.size := by
      rcases ho3.2 with ⟨h0, _⟩ | ⟨g', cap', cur, e, _, hb', _, _, h3, h4⟩
      · cases h0
      · simp only [Value.slice.injEq, Option.some.injEq, Addr.mk.injEq, and_true, true_and] at e
        obtain ⟨rfl, rfl⟩ := e
        exact ⟨cur, hb', h3⟩
    have hmul : i + (l.length - i) * 1 = l.length * 1 := by omega
    have hmul2 : l.length * 1 ≤ l.length * 1 := Nat.mul_le_mul_right _ (by omega)
    have hok : 0 < l.length - i → (some (⟨g, i, none⟩ : Addr)) = some ⟨g, i, none⟩ ∧ i + (l.length - i) * (.string ⟨#[]⟩ : Value).cells.size ≤ cur.size := fun _ => ⟨rfl, by show _ + _ * 1 ≤ _; omega⟩
    have HCB := hid hcb
    have HO3 := hid ho3
    have HM := hid (((Mod.refl [g] w).drew).tr hm2.out)
    have Hok := hid hok
    clear hcb ho3 hm2 ho2 hmul hmul2 hok hEnd
    go_wp2_with (refine wpList_clear_blk rfl (.tmp 31) 23 rfl 9 (.string ⟨#[]⟩) Try.underlying23 sdl_zero (by intro v hv; simp [Value.cells] at hv; rcases hv with rfl <;> rfl) (some ⟨g, i, none⟩) (l.length - i) (l.length - i) rfl g (i) cur 9 HCB.out Hok.out ?_; intro w3 cur3 hb3 hs3 hc3 hm3)
    go_ret
    exact ⟨rfl, HO3.out.keep HCB.out hb3.out hs3.out (by rw [Nat.mul_one]; exact hc3.out), HM.out.tr hm3.out⟩
  · have hEnd := hid ((HO.out.mod (Mod.refl [] w).drew (by simp)).ending (k := j) hj (cap - j) j (fun _ => (Nat.mul_one j).symm))
    go_upto_region 5 with (fail)
    go_region_law (refine step_append_room rfl (.tmp 22) (.tmp 25) 23 9 rfl Try.underlying23 sin_el g i cap _ (by simp [Act.eval, Act.put]) hBeg.out _ (by simp [Act.eval, Act.put]) (l.length - j) _ hEnd.out (fun u hu => Hone.out u (List.mem_of_mem_drop hu)) (by omega) ?_; intro w2 ho2 hm2)
    rw [HN.out]
    have ho3 := ho2.out
    rw [HN.out, Nat.mul_one, Nat.mul_one, ← HR.out] at ho3
    obtain ⟨cur, hcb, hcs⟩ : ∃ cur, Blk w2 g cur 9 ∧ cap * 1 ≤ cur.size := by
      rcases ho3.2 with ⟨h0, _⟩ | ⟨g', cap', cur, e, _, hb', _, _, h3, h4⟩
      · cases h0
      · simp only [Value.slice.injEq, Option.some.injEq, Addr.mk.injEq, and_true, true_and] at e
        obtain ⟨rfl, rfl⟩ := e
        exact ⟨cur, hb', h3⟩
    have hmul : N + (l.length - N) * 1 = l.length * 1 := by omega
    have hmul2 : l.length * 1 ≤ cap * 1 := Nat.mul_le_mul_right _ (by omega)
    have hok : 0 < l.length - N → (some (⟨g, N, none⟩ : Addr)) = some ⟨g, N, none⟩ ∧ N + (l.length - N) * (.string ⟨#[]⟩ : Value).cells.size ≤ cur.size := fun _ => ⟨rfl, by show _ + _ * 1 ≤ _; omega⟩
    have HCB := hid hcb
    have HO3 := hid ho3
    have HM := hid (((Mod.refl [g] w).drew).tr hm2.out)
    have Hok := hid hok
    clear hcb ho3 hm2 ho2 hmul hmul2 hok hEnd
    go_wp2_with (refine wpList_clear_blk rfl (.tmp 31) 23 rfl 9 (.string ⟨#[]⟩) Try.underlying23 sdl_zero (by intro v hv; simp [Value.cells] at hv; rcases hv with rfl <;> rfl) (some ⟨g, N, none⟩) (l.length - N) (cap - N) rfl g N cur 9 HCB.out Hok.out ?_; intro w3 cur3 hb3 hs3 hc3 hm3)
    go_ret
    exact ⟨rfl, HO3.out.keep HCB.out hb3.out hs3.out (by rw [Nat.mul_one]; exact hc3.out), HM.out.tr hm3.out⟩
end Go.Proofs.Ythofkkmnngmafaa
