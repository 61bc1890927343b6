/- slices.Delete. -/
import Derived.Test.YthofkkmnngmafaaK8
import Derived.Test.YthofkkmnngmafaaFI1
namespace Go.Proofs.Ythofkkmnngmafaa
set_option linter.unusedVariables false
set_option linter.unusedSimpArgs false
set_option linter.unusedSectionVars false
open Go.RowKit

/-- What Delete leaves. -/
def cdlSays (w : World) (g n cap : Nat) (l : List Ch) (e : Ending) (w' : World) : Prop :=
  e = .returned (.slice (some ⟨g, 0, none⟩) n cap) ∧ Own w' 60 1 (.slice (some ⟨g, 0, none⟩) n cap) n (flat chC l) [g] ∧ Mod [g] w w'

theorem cdl_zero (w : World) : (zeroValue 60).run Try.prog w = .ok (.nilIface) w := by kernel_rfl

set_option maxRecDepth 100000 in
set_option maxHeartbeats 4000000 in
theorem cdl_c (w : World) (g cap : Nat) (l : List Ch) (i j : Nat) (ho : Own w 60 1 (.slice (some ⟨g, 0, none⟩) l.length cap) l.length (flat chC l) [g]) (hi : i < j) (hj : j ≤ l.length) (hl : l.length ≤ 1000000) :
    Calls Try.prog 68 #[.slice (some ⟨g, 0, none⟩) l.length cap, .int .i64 i, .int .i64 j] w (cdlSays w g (i + (l.length - j)) cap (l.take i ++ l.drop j)) := by
  have HO := hid ho
  obtain ⟨_, _, hnc, hcap⟩ := ho.blk
  have Hone := hid (flat_one ch_lays l)
  have hij : ¬ ((i : Int) = (j : Int)) := by omega
  have hz1 : ¬ (cap = i) := by omega
  have hi2 : (i : Int) ≤ (j : Int) := by omega
  have hj2 : (j : Int) ≤ (l.length : Int) := by omega
  have hn2 : (l.length : Int) ≤ (cap : Int) := by omega
  have hi3 : (0 : Int) ≤ (i : Int) := by omega
  have hj3 : (j : Int) ≤ (cap : Int) := by omega
  have hi4 : (i : Int) ≤ (cap : Int) := by omega
  have hroom : i + (l.length - j) ≤ cap := by omega
  have hsum : (((i + (l.length - j) : Nat)) : Int) ≤ (l.length : Int) := by omega
  have HR : Hid (flat chC (l.take i ++ l.drop j) = (flat chC l).take (i) ++ (flat chC l).drop j) := by
    show _ = _
    have h1 := flat_take ch_lays l i
    have h2 := flat_drop ch_lays l j
    rw [Nat.mul_one] at h1 h2
    rw [← h1, ← h2]; simp [flat]
  obtain ⟨R, hR⟩ : ∃ R, l.take i ++ l.drop j = R := ⟨_, rfl⟩
  rw [hR] at HR ⊢
  obtain ⟨N, hN⟩ : ∃ N, i + (l.length - j) = N := ⟨_, rfl⟩
  have HN := hid hN
  rw [hN] at hsum hroom ⊢
  have hcN : ¬ cap = N := by omega
  have hNi : (N : Int) ≤ (l.length : Int) := by omega
  have hNn : N ≤ l.length := by omega
  clear hR ho hN hsum
  have hBeg := hid (HO.out.begin (k := i) (by omega))
  go_enter Try.func68, Try.ntmps68
  rcases (by omega : (cap = l.length ∧ j = l.length) ∨ cap ≠ j) with ⟨rfl, rfl⟩ | hcj
  · obtain rfl : i = N := by have := HN.out; omega
    have hEnd : Hid (Rdl w.drew 1 (.slice (some ⟨g, 0, none⟩) 0 0) 0 []) := ⟨by simp, Or.inr ⟨g, 0, 0, rfl, fun j h => by omega⟩⟩
    replace HR : Hid (flat chC R = (flat chC l).take (i)) := by
      show _ = _
      rw [HR.out, List.drop_of_length_le (by rw [flat_len ch_lays]; omega), List.append_nil]
    clear HN
    go_upto_region 5 with (fail)
    go_region_law (refine step_append_room rfl (.tmp 22) (.tmp 25) 70 60 rfl Try.underlying70 cin_el g i l.length _ (by simp [Act.eval, Act.put]) hBeg.out _ (by simp [Act.eval, Act.put]) 0 [] hEnd.out (by intro u hu; cases hu) (by omega) ?_; intro w2 ho2 hm2)
    have ho3 := ho2.out
    rw [Nat.add_zero, List.append_nil, Nat.mul_one, ← HR.out] at ho3
    try rw [Nat.add_zero]
    obtain ⟨cur, hcb, hcs⟩ : ∃ cur, Blk w2 g cur 60 ∧ l.length * 1 ≤ cur.size := by
      rcases ho3.2 with ⟨h0, _⟩ | ⟨g', cap', cur, e, _, hb', _, _, h3, h4⟩
      · cases h0
      · simp only [Value.slice.injEq, Option.some.injEq, Addr.mk.injEq, and_true, true_and] at e
        obtain ⟨rfl, rfl⟩ := e
        exact ⟨cur, hb', h3⟩
    have hmul : i + (l.length - i) * 1 = l.length * 1 := by omega
    have hmul2 : l.length * 1 ≤ l.length * 1 := Nat.mul_le_mul_right _ (by omega)
    have hok : 0 < l.length - i → (some (⟨g, i, none⟩ : Addr)) = some ⟨g, i, none⟩ ∧ i + (l.length - i) * (.nilIface : Value).cells.size ≤ cur.size := fun _ => ⟨rfl, by show _ + _ * 1 ≤ _; omega⟩
    have HCB := hid hcb
    have HO3 := hid ho3
    have HM := hid (((Mod.refl [g] w).drew).tr hm2.out)
    have Hok := hid hok
    clear hcb ho3 hm2 ho2 hmul hmul2 hok hEnd
    go_wp2_with (refine wpList_clear_blk rfl (.tmp 31) 70 rfl 60 (.nilIface) Try.underlying70 cdl_zero (by intro v hv; simp [Value.cells] at hv; rcases hv with rfl <;> rfl) (some ⟨g, i, none⟩) (l.length - i) (l.length - i) rfl g (i) cur 60 HCB.out Hok.out ?_; intro w3 cur3 hb3 hs3 hc3 hm3)
    go_ret
    exact ⟨rfl, HO3.out.keep HCB.out hb3.out hs3.out (by rw [Nat.mul_one]; exact hc3.out), HM.out.tr hm3.out⟩
  · have hEnd := hid ((HO.out.mod (Mod.refl [] w).drew (by simp)).ending (k := j) hj (cap - j) j (fun _ => (Nat.mul_one j).symm))
    go_upto_region 5 with (fail)
    go_region_law (refine step_append_room rfl (.tmp 22) (.tmp 25) 70 60 rfl Try.underlying70 cin_el g i cap _ (by simp [Act.eval, Act.put]) hBeg.out _ (by simp [Act.eval, Act.put]) (l.length - j) _ hEnd.out (fun u hu => Hone.out u (List.mem_of_mem_drop hu)) (by omega) ?_; intro w2 ho2 hm2)
    rw [HN.out]
    have ho3 := ho2.out
    rw [HN.out, Nat.mul_one, Nat.mul_one, ← HR.out] at ho3
    obtain ⟨cur, hcb, hcs⟩ : ∃ cur, Blk w2 g cur 60 ∧ cap * 1 ≤ cur.size := by
      rcases ho3.2 with ⟨h0, _⟩ | ⟨g', cap', cur, e, _, hb', _, _, h3, h4⟩
      · cases h0
      · simp only [Value.slice.injEq, Option.some.injEq, Addr.mk.injEq, and_true, true_and] at e
        obtain ⟨rfl, rfl⟩ := e
        exact ⟨cur, hb', h3⟩
    have hmul : N + (l.length - N) * 1 = l.length * 1 := by omega
    have hmul2 : l.length * 1 ≤ cap * 1 := Nat.mul_le_mul_right _ (by omega)
    have hok : 0 < l.length - N → (some (⟨g, N, none⟩ : Addr)) = some ⟨g, N, none⟩ ∧ N + (l.length - N) * (.nilIface : Value).cells.size ≤ cur.size := fun _ => ⟨rfl, by show _ + _ * 1 ≤ _; omega⟩
    have HCB := hid hcb
    have HO3 := hid ho3
    have HM := hid (((Mod.refl [g] w).drew).tr hm2.out)
    have Hok := hid hok
    clear hcb ho3 hm2 ho2 hmul hmul2 hok hEnd
    go_wp2_with (refine wpList_clear_blk rfl (.tmp 31) 70 rfl 60 (.nilIface) Try.underlying70 cdl_zero (by intro v hv; simp [Value.cells] at hv; rcases hv with rfl <;> rfl) (some ⟨g, N, none⟩) (l.length - N) (cap - N) rfl g N cur 60 HCB.out Hok.out ?_; intro w3 cur3 hb3 hs3 hc3 hm3)
    go_ret
    exact ⟨rfl, HO3.out.keep HCB.out hb3.out hs3.out (by rw [Nat.mul_one]; exact hc3.out), HM.out.tr hm3.out⟩
end Go.Proofs.Ythofkkmnngmafaa
