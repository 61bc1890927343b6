/- slices.Delete. -/
import Derived.Test.YtkacjggjmdndaaaK8
import Derived.Test.YtkacjggjmdndaaaSPE
namespace Go.Proofs.Ytkacjggjmdndaaa
set_option linter.unusedVariables false
set_option linter.unusedSimpArgs false
set_option linter.unusedSectionVars false
open Go.RowKit

/-- What Delete leaves. -/
def delSays (w : World) (g n cap : Nat) (l : List Rg) (e : Ending) (w' : World) : Prop :=
  e = .returned (.slice (some ⟨g, 0, none⟩) n cap) ∧ Own w' 48 3 (.slice (some ⟨g, 0, none⟩) n cap) n (flat rgC l) [g] ∧ Mod [g] w w'

theorem del_zero (w : World) : (zeroValue 48).run Try.prog w = .ok (rgV ⟨mt, mt, 0⟩) w := by kernel_rfl

set_option maxRecDepth 100000 in
set_option maxHeartbeats 4000000 in
theorem del_c (w : World) (g cap : Nat) (l : List Rg) (i j : Nat) (ho : Own w 48 3 (.slice (some ⟨g, 0, none⟩) l.length cap) l.length (flat rgC l) [g]) (hi : i < j) (hj : j ≤ l.length) (hl : l.length ≤ 1000000) :
    Calls Try.prog 16 #[.slice (some ⟨g, 0, none⟩) l.length cap, .int .i64 i, .int .i64 j] w (delSays w g (i + (l.length - j)) cap (l.take i ++ l.drop j)) := by
  have HO := hid ho
  obtain ⟨_, _, hnc, hcap⟩ := ho.blk
  have Hone := hid (flat_one rg_lays l)
  have hij : ¬ ((i : Int) = (j : Int)) := by omega
  have hz1 : ¬ (cap = i) := by omega
  have hi2 : (i : Int) ≤ (j : Int) := by omega
  have hj2 : (j : Int) ≤ (l.length : Int) := by omega
  have hn2 : (l.length : Int) ≤ (cap : Int) := by omega
  have hi3 : (0 : Int) ≤ (i : Int) := by omega
  have hj3 : (j : Int) ≤ (cap : Int) := by omega
  have hi4 : (i : Int) ≤ (cap : Int) := by omega
  have hroom : i + (l.length - j) ≤ cap := by omega
  have hsum : (((i + (l.length - j) : Nat)) : Int) ≤ (l.length : Int) := by omega
  have HR : Hid (flat rgC (l.take i ++ l.drop j) = (flat rgC l).take (i * 3) ++ (flat rgC l).drop (j * 3)) := by
    show _ = _
    rw [← flat_take rg_lays, ← flat_drop rg_lays]; simp [flat]
  obtain ⟨R, hR⟩ : ∃ R, l.take i ++ l.drop j = R := ⟨_, rfl⟩
  rw [hR] at HR ⊢
  obtain ⟨N, hN⟩ : ∃ N, i + (l.length - j) = N := ⟨_, rfl⟩
  have HN := hid hN
  rw [hN] at hsum hroom ⊢
  have hcN : ¬ cap = N := by omega
  have hNi : (N : Int) ≤ (l.length : Int) := by omega
  have hNn : N ≤ l.length := by omega
  clear hR ho hN hsum
  have hBeg := hid (HO.out.begin (k := i) (by omega))
  go_enter Try.func16, Try.ntmps16
  rcases (by omega : (cap = l.length ∧ j = l.length) ∨ cap ≠ j) with ⟨rfl, rfl⟩ | hcj
  · obtain rfl : i = N := by have := HN.out; omega
    have hEnd : Hid (Rdl w.drew 3 (.slice (some ⟨g, 0, none⟩) 0 0) 0 []) := ⟨by simp, Or.inr ⟨g, 0, 0, rfl, fun j h => by omega⟩⟩
    replace HR : Hid (flat rgC R = (flat rgC l).take (i * 3)) := by
      show _ = _
      rw [HR.out, List.drop_of_length_le (by rw [flat_len rg_lays]; omega), List.append_nil]
    clear HN
    go_upto_region 5 with (fail)
    go_region_law (refine step_append_room rfl (.tmp 22) (.tmp 25) 41 48 rfl Try.underlying41 ins_el g i l.length _ (by simp [Act.eval, Act.put]) hBeg.out _ (by simp [Act.eval, Act.put]) 0 [] hEnd.out (by intro u hu; cases hu) (by omega) ?_; intro w2 ho2 hm2)
    have ho3 := ho2.out
    rw [Nat.add_zero, List.append_nil, ← HR.out] at ho3
    try rw [Nat.add_zero]
    obtain ⟨cur, hcb, hcs⟩ : ∃ cur, Blk w2 g cur 48 ∧ l.length * 3 ≤ cur.size := by
      rcases ho3.2 with ⟨h0, _⟩ | ⟨g', cap', cur, e, _, hb', _, _, h3, h4⟩
      · cases h0
      · simp only [Value.slice.injEq, Option.some.injEq, Addr.mk.injEq, and_true, true_and] at e
        obtain ⟨rfl, rfl⟩ := e
        exact ⟨cur, hb', h3⟩
    have hmul : i * 3 + (l.length - i) * 3 = l.length * 3 := by rw [← Nat.add_mul]; congr 1; omega
    have hmul2 : l.length * 3 ≤ l.length * 3 := Nat.mul_le_mul_right _ (by omega)
    have hok : 0 < l.length - i → (some (⟨g, i * 3, none⟩ : Addr)) = some ⟨g, i * 3, none⟩ ∧ i * 3 + (l.length - i) * (rgV ⟨mt, mt, 0⟩ : Value).cells.size ≤ cur.size := fun _ => ⟨rfl, by show _ + _ * 3 ≤ _; omega⟩
    have HCB := hid hcb
    have HO3 := hid ho3
    have HM := hid (((Mod.refl [g] w).drew).tr hm2.out)
    have Hok := hid hok
    clear hcb ho3 hm2 ho2 hmul hmul2 hok hEnd
    go_wp2_with (refine wpList_clear_blk rfl (.tmp 31) 41 rfl 48 (rgV ⟨mt, mt, 0⟩) Try.underlying41 del_zero (by intro v hv; simp [Value.cells] at hv; rcases hv with rfl | rfl | rfl <;> rfl) (some ⟨g, i * 3, none⟩) (l.length - i) (l.length - i) rfl g (i * 3) cur 48 HCB.out Hok.out ?_; intro w3 cur3 hb3 hs3 hc3 hm3)
    go_ret
    exact ⟨rfl, HO3.out.keep HCB.out hb3.out hs3.out hc3.out, HM.out.tr hm3.out⟩
  · have hEnd := hid ((HO.out.mod (Mod.refl [] w).drew (by simp)).ending (k := j) hj (cap - j) (j * 3) (fun _ => rfl))
    go_upto_region 5 with (fail)
    go_region_law (refine step_append_room rfl (.tmp 22) (.tmp 25) 41 48 rfl Try.underlying41 ins_el g i cap _ (by simp [Act.eval, Act.put]) hBeg.out _ (by simp [Act.eval, Act.put]) (l.length - j) _ hEnd.out (fun u hu => Hone.out u (List.mem_of_mem_drop hu)) (by omega) ?_; intro w2 ho2 hm2)
    rw [HN.out]
    have ho3 := ho2.out
    rw [HN.out, ← HR.out] at ho3
    obtain ⟨cur, hcb, hcs⟩ : ∃ cur, Blk w2 g cur 48 ∧ cap * 3 ≤ cur.size := by
      rcases ho3.2 with ⟨h0, _⟩ | ⟨g', cap', cur, e, _, hb', _, _, h3, h4⟩
      · cases h0
      · simp only [Value.slice.injEq, Option.some.injEq, Addr.mk.injEq, and_true, true_and] at e
        obtain ⟨rfl, rfl⟩ := e
        exact ⟨cur, hb', h3⟩
    have hmul : N * 3 + (l.length - N) * 3 = l.length * 3 := by rw [← Nat.add_mul]; congr 1; omega
    have hmul2 : l.length * 3 ≤ cap * 3 := Nat.mul_le_mul_right _ (by omega)
    have hok : 0 < l.length - N → (some (⟨g, N * 3, none⟩ : Addr)) = some ⟨g, N * 3, none⟩ ∧ N * 3 + (l.length - N) * (rgV ⟨mt, mt, 0⟩ : Value).cells.size ≤ cur.size := fun _ => ⟨rfl, by show _ + _ * 3 ≤ _; omega⟩
    have HCB := hid hcb
    have HO3 := hid ho3
    have HM := hid (((Mod.refl [g] w).drew).tr hm2.out)
    have Hok := hid hok
    clear hcb ho3 hm2 ho2 hmul hmul2 hok hEnd
    go_wp2_with (refine wpList_clear_blk rfl (.tmp 31) 41 rfl 48 (rgV ⟨mt, mt, 0⟩) Try.underlying41 del_zero (by intro v hv; simp [Value.cells] at hv; rcases hv with rfl | rfl | rfl <;> rfl) (some ⟨g, N * 3, none⟩) (l.length - N) (cap - N) rfl g (N * 3) cur 48 HCB.out Hok.out ?_; intro w3 cur3 hb3 hs3 hc3 hm3)
    go_ret
    exact ⟨rfl, HO3.out.keep HCB.out hb3.out hs3.out hc3.out, HM.out.tr hm3.out⟩
end Go.Proofs.Ytkacjggjmdndaaa
