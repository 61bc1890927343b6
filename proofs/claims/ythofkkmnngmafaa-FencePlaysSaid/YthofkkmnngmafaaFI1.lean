/- slices.Insert of one element. -/
import Derived.Test.YthofkkmnngmafaaK7
import Derived.Test.YthofkkmnngmafaaFB
namespace Go.Proofs.Ythofkkmnngmafaa
set_option linter.unusedVariables false
set_option linter.unusedSimpArgs false
set_option linter.unusedSectionVars false
open Go.RowKit

theorem cin_el : (Try.prog.info? 60).map (fun i => (i.zero, i.size, i.bytes)) = some (some (.nilIface), 1, 16) := by kernel_rfl
theorem cin_sz : (Try.prog.info? 60).map (·.size) = some 1 := by kernel_rfl

/-- What Insert leaves. -/
def cinSays (w : World) (L : List Nat) (l : List Ch) (e : Ending) (w' : World) : Prop :=
  ∃ v' L', e = .returned v' ∧ Own w' 60 1 v' l.length (flat chC l) L' ∧ Mod L w w' ∧ ∀ k ∈ L', k ∈ L ∨ w.heap.size ≤ k

theorem cin_flat (l : List Ch) (i : Nat) (x : Ch) : flat chC (l.take i ++ x :: l.drop i) = (flat chC l).take (i) ++ (chC x ++ (flat chC l).drop (i)) := by
  have h1 := flat_take ch_lays l i
  have h2 := flat_drop ch_lays l i
  rw [Nat.mul_one] at h1 h2
  rw [← h1, ← h2]
  simp [flat]
theorem cin_len (l : List Ch) (i : Nat) (x : Ch) : (l.take i ++ x :: l.drop i).length = l.length + 1 := by
  simp; omega

set_option maxRecDepth 100000 in
set_option maxHeartbeats 4000000 in
theorem cin_c (w : World) (v : Value) (l : List Ch) (i : Nat) (x : Ch) (b : Nat) (L : List Nat) (ho : Own w 60 1 v l.length (flat chC l) L) (hi : i ≤ l.length) (hl : l.length ≤ 1000000) (hb : Blk w b (chC x).toArray 60) (hbL : b ∉ L) :
    Calls Try.prog 59 #[v, .int .i64 i, .slice (some ⟨b, 0, none⟩) 1 1] w (cinSays w L (l.take i ++ x :: l.drop i)) := by
  have HO := hid ho
  have hxl := hid (ch_lays.len x)
  have hfl := hid (flat_len ch_lays l)
  have hx1 := hid (ch_lays.one x)
  have HR : Hid (Rdl w 1 (.slice (some ⟨b, 0, none⟩) 1 1) 1 (chC x)) := ⟨by rw [hxl.out], Or.inr ⟨b, 0, 1, rfl, fun j hj => by rw [Nat.zero_add, hb.cell]; simp⟩⟩
  have HBx := hid hb
  have Hfl := hid (cin_flat l i x)
  have Hln := hid (cin_len l i x)
  obtain ⟨R, hR⟩ : ∃ R, l.take i ++ x :: l.drop i = R := ⟨_, rfl⟩
  rw [hR] at Hfl Hln ⊢
  clear hR
  rcases Nat.lt_or_ge i l.length with hlt | hge
  · obtain ⟨a, cap, rfl, hnc, hcap, hg⟩ := ho.val
    obtain ⟨g, rfl, rfl, _⟩ := hg (by omega)
    have hbg : b ≠ g := by simpa using hbL
    have hblt := hb.lt
    have hz2 : ¬ ((i : Int) = (l.length : Int)) := by omega
    have hw1 : IntKind.i64.wrap ((i : Int) + 1) = (i : Int) + 1 := IntWalk.i64_in _ ⟨by omega, by omega⟩
    have hb1 : (0 : Int) ≤ (i : Int) + 1 := by omega
    have htn : ((i : Int) + 1).toNat = i + 1 := by omega
    have hb2 : ¬ (cap = i) := by omega
    have hmi : i ≤ l.length * 1 := by omega
    clear hb
    rcases Nat.lt_or_ge cap (l.length + 1) with hroom | hroom
    · -- no room: a new row
      obtain ⟨k, hk⟩ : ∃ k, l.length + 1 = i + k := ⟨l.length + 1 - i, by omega⟩
      have hki : ((l.length : Int) + 1 - (i : Int)) = (k : Int) := by omega
      obtain ⟨G, w1, cur1, hrun, hc1, hm1, hG1, hG2, hG3, htk⟩ := run_append_zeros_own (P := Try.prog) 70 3 70 60 Try.underlying70 Try.underlying3 cin_el rfl (by decide) ho i k hi (by omega) (by omega) (by omega) (by omega)
      rw [← hki, ← hk] at hrun
      rw [← hk] at hG1
      have hgl1 := hc1.lt
      have Hc1 := hid hc1
      have Hm1 := hid hm1
      have Htk := hid htk
      have hG4 : G ≤ 9223372036854775807 := by simpa [maxLen] using hG2
      have hGi : ¬ (G = i) := by omega
      have hGim : ¬ (G = i + 1) := by omega
      have hroomi : (cap : Int) < (l.length : Int) + 1 := by omega
      have HOw1 := hid (HO.out.mod hm1 (by simp))
      have HR1 := hid (HR.out.mod hm1 (by simp))
      have hg1ne : w.heap.size ≠ b := by omega
      have hglt : g < w.heap.size := ho.lt g (by simp)
      have hg1ne2 : w.heap.size ≠ g := by omega
      clear hc1 hm1 htk hki hk ho
      have hk1 : 1 = Nat.min (l.length + 1 - i) 1 := by show 1 = min (l.length + 1 - i) 1; omega
      have hk2 : l.length - i = Nat.min (l.length + 1 - (i + 1)) (l.length - i) := by show l.length - i = min (l.length + 1 - (i + 1)) (l.length - i); omega
      have HK1 := hid hk1
      have HK2 := hid hk2
      clear hk1 hk2
      have hmul : (l.length + 1) * 1 ≤ G * 1 := Nat.mul_le_mul_right _ hG1
      have hmul3 : (i + 1) = i + 1 := rfl
      have hmul4 : (l.length + 1) * 1 = l.length * 1 + 1 := Nat.succ_mul _ _
      have hmul5 : i + (l.length - i) * 1 = l.length * 1 := by omega
      have HU := hid (⟨hmul3, hmul4, hmul5⟩ : _ ∧ _ ∧ _)
      have hfit1 : i + 1 * 1 ≤ cur1.size := by omega
      have hds := hid ((Own.lx ch_lays HO.out).drop (k := i) (by omega) (l.length - i) (cap - i) rfl)
      clear hmul3 hmul4 hmul5
      have hgl : w.heap.size = w.heap.size := rfl
      generalize hgg : w.heap.size = g1 at *
      have Hgg := hid hgg
      clear hgg hgl
      go_enter Try.func59, Try.ntmps59
      go_upto_region 11 with (first
        | (at_builtin; refine Lib.wpList_append_run _ rfl _ _ _ _ rfl _ _ rfl rfl _ _ hrun ?_)
        | (refine wpList_copy_at rfl (.tmp 43) (.tmp 44) 70 70 rfl 60 1 Try.underlying70 cin_sz (l.length + 1 - i) (G - i) 1 _ rfl (chC x) (Src.rdl HR1.out) g1 (i) cur1 60 rfl Hc1.out 1 HK1.out hfit1 (fun v hv => hx1.out v (List.mem_of_mem_take hv)) ?_; intro w2 hc2 hm2))
      have hc2d := hid hc2.out.drew
      have hM2 := hid (hm2.out.drew)
      have hsd : Hid (Src Try.prog w2.drew (.slice (some ⟨g, i, none⟩) (l.length - i) (cap - i)) 1 (l.length - i) (flat chC (l.drop i))) := by
        have h := Lx.src ch_lays (P := Try.prog) (hds.out.mod ((Hm1.out.trans hm2.out (m := []) (by simp) (by intro y hy hlt; simp at hy; have := Hgg.out; omega)).drew))
        rw [Nat.zero_add, Nat.mul_one, List.length_drop] at h
        exact h
      have hfit2 : (i + 1) + (l.length - i) * 1 ≤ (splice cur1 (i) ((chC x).take (1 * 1))).size := by
        obtain ⟨u1, u2, u3⟩ := HU.out
        rw [splice_size _ _ _ (by rw [List.length_take, hxl.out]; omega)]
        omega
      have hone := hid (flat_one ch_lays (l.drop i))
      clear hc2
      go_region_law (refine step_copy_at rfl (.tmp 50) (.tmp 53) 70 70 rfl 60 1 Try.underlying70 cin_sz (l.length + 1 - (i + 1)) (G - (i + 1)) (l.length - i) _ (by simp [Act.eval, Act.put]) (flat chC (l.drop i)) hsd.out g1 ((i + 1)) _ 60 (by simp [Act.eval, Act.put]) hc2d.out (l.length - i) HK2.out hfit2 (fun v hv => hone.out v (List.mem_of_mem_take hv)) ?_; intro w3 hc3 hm3)
      go_wp2
      go_ret
      obtain ⟨u1, u2, u3⟩ := HU.out
      have hmw : Mod [] w w3 := (Hm1.out.trans (hm2.out.drew.tr hm3.out) (m := []) (by simp) (by intro y hy hlt; simp at hy; have := Hgg.out; omega))
      refine ⟨_, [g1], rfl, ⟨?_, Or.inr ⟨g1, G, _, ?_, rfl, hc3.out, ?_, hG2, ?_, ?_⟩⟩, hmw.mono (by simp), ?_⟩
      · rw [flat_len ch_lays]
      · rw [Hln.out]; rfl
      · rw [Hln.out]; exact hG1
      · rw [splice_size, splice_size]
        · exact hG3
        · rw [List.length_take, hxl.out]; omega
        · rw [splice_size _ _ _ (by rw [List.length_take, hxl.out]; omega), List.length_take, flat_len ch_lays, List.length_drop]; omega
      · have e1 : (chC x).take (1 * 1) = chC x := List.take_of_length_le (by rw [hxl.out]; omega)
        have e2 : (flat chC (l.drop i)).take ((l.length - i) * 1) = (flat chC l).drop (i) := by
          rw [List.take_of_length_le (by rw [flat_len ch_lays, List.length_drop]; omega), flat_drop ch_lays, Nat.mul_one]
        rw [e1, e2, Hln.out, u2, Hfl.out]
        exact splice2_take cur1 _ _ _ _ _ hfl.out hxl.out hmi (by omega) (by have := Htk.out; rw [Nat.mul_one] at this; exact this)
      · intro k hk; simp at hk; right; have := Hgg.out; omega
    · -- room: in place
      obtain ⟨cur, hcb, hcs, htk⟩ : ∃ cur, Blk w g cur 60 ∧ cap * 1 ≤ cur.size ∧ cur.toList.take (l.length * 1) = flat chC l := by
        rcases ho.2 with ⟨h0, _⟩ | ⟨g', cap', cur, e, _, hb', _, _, h3, h4⟩
        · cases h0
        · simp only [Value.slice.injEq, Option.some.injEq, Addr.mk.injEq, and_true, true_and] at e
          obtain ⟨rfl, rfl⟩ := e
          exact ⟨cur, hb', h3, h4⟩
      have hmul3 : (i + 1) = i + 1 := rfl
      have hmul4 : (l.length + 1) * 1 = l.length * 1 + 1 := Nat.succ_mul _ _
      have hmul5 : i + (l.length - i) * 1 = l.length * 1 := by omega
      have hmul6 : (l.length + 1) * 1 ≤ cap * 1 := Nat.mul_le_mul_right _ hroom
      have hov : ∀ lb cb, (callFunc 70 #[.slice (some ⟨b, 0, none⟩) 1 1, .slice (some ⟨g, (i + 1), none⟩) lb cb]).run Try.prog w = .ok (.value (.bool false)) w := fun lb cb => by
        have hsz : ∀ w, (sizeOf 60).run Try.prog w = .ok 1 w := fun w => by kernel_rfl
        rw [run_callFunc_extern Try.func70 (by kernel_rfl) (by kernel_rfl) (by kernel_rfl) (e := Extern.SlicesOverlaps.overlaps #[70, 70] #[4]) (by kernel_rfl),
          Lib.run_overlaps_apart w 70 4 60 Try.underlying70 1 hsz ⟨b, 0, none⟩ ⟨g, (i + 1), none⟩ 1 1 lb cb hbg 60 60 (chC x).toArray.size cur.size (by have := HBx.out; unfold Blk at this; simp [World.shape?, this]) (by unfold Blk at hcb; simp [World.shape?, hcb]) (by have := ch_lays.pos; omega) (HBx.out.free _) (HBx.out.free _)]
        rfl
      have hk1 : 1 = Nat.min (l.length + 1 - i) 1 := by show 1 = min (l.length + 1 - i) 1; omega
      have hk2 : l.length - i = Nat.min (l.length + 1 - (i + 1)) (l.length + 1 - i) := by show l.length - i = min (l.length + 1 - (i + 1)) (l.length + 1 - i); omega
      have hb3 : (i : Int) ≤ (l.length : Int) + 1 := by omega
      have hb4 : ¬ (cap = i + 1) := by omega
      have hb5 : (l.length : Int) + 1 ≤ (cap : Int) := by omega
      have hb6 : (i : Int) + 1 ≤ (l.length : Int) + 1 := by omega
      have hfit1 : (i + 1) + (l.length - i) * 1 ≤ cur.size := by omega
      have hsrc : Hid (Src Try.prog w.drew (.slice (some ⟨g, i, none⟩) (l.length + 1 - i) (cap - i)) 1 (l.length + 1 - i) ((cur.toList.drop (i)).take ((l.length + 1 - i) * 1))) := by
        have hm6 : i + (l.length + 1 - i) * 1 = (l.length + 1) * 1 := by omega
        have hcl : cur.toList.length = cur.size := Array.length_toList
        have hlen : ((cur.toList.drop (i)).take ((l.length + 1 - i) * 1)).length = (l.length + 1 - i) * 1 := by rw [List.length_take, List.length_drop, hcl]; exact Nat.min_eq_left (by omega)
        refine Src.slice (fun j hj => ?_) hlen
        rw [hlen] at hj
        rw [hcb.drew.cell, List.getElem?_take, if_pos hj, List.getElem?_drop]
        simp
      have hseg : ((cur.toList.drop (i)).take ((l.length + 1 - i) * 1)).take ((l.length - i) * 1) = (flat chC l).drop (i) := by
        rw [List.take_take, Nat.min_eq_left (Nat.mul_le_mul_right _ (by omega)), ← htk, List.drop_take]
        congr 1
        omega
      have hone : Hid (∀ v ∈ ((cur.toList.drop (i)).take ((l.length + 1 - i) * 1)).take ((l.length - i) * 1), v.oneCell' = true) := by
        intro v hv
        rw [hseg] at hv
        exact flat_one ch_lays l v (List.mem_of_mem_drop hv)
      have HSG := hid hseg
      clear hseg
      have HCB := hid hcb.drew
      have HKK := hid (⟨hk1, hk2⟩ : _ ∧ _)
      have HTK := hid htk
      have HM := hid (⟨hmul3, hmul4, hmul5, hmul6⟩ : _ ∧ _ ∧ _ ∧ _)
      have HCS := hid hcs
      clear hk1 hk2 hcb htk hmul3 hmul4 hmul5 hmul6 hcs ho
      go_enter Try.func59, Try.ntmps59
      go_upto_region 15 with (simp only [hov])
      go_region_law (refine step_copy_at rfl (.tmp 73) (.tmp 76) 70 70 rfl 60 1 Try.underlying70 cin_sz (l.length + 1 - (i + 1)) (cap - (i + 1)) (l.length + 1 - i) _ (by simp [Act.eval, Act.put]) _ hsrc.out g ((i + 1)) _ 60 (by simp [Act.eval, Act.put]) HCB.out (l.length - i) HKK.out.2 hfit1 hone.out ?_; intro w2 hc2 hm2)
      have hc2' := hc2.out
      rw [HSG.out] at hc2'
      have HC2 := hid hc2'
      have HR2 := hid (HR.out.mod (((Mod.refl [g] w).drew).tr hm2.out) (by intro b' off' cap' hv; simp only [Value.slice.injEq, Option.some.injEq, Addr.mk.injEq, and_true] at hv; rw [← hv.1.1]; simpa using hbg))
      have hfit3 : i + 1 * 1 ≤ (splice cur ((i + 1)) ((flat chC l).drop (i))).size := by
        obtain ⟨u1, u2, u3, u4⟩ := HM.out
        have := HCS.out
        rw [splice_size _ _ _ (by rw [List.length_drop, hfl.out]; omega)]
        omega
      clear hc2 hc2' hsrc hone HSG HCB
      go_wp2_with (refine wpList_copy_at rfl (.tmp 80) (.tmp 81) 70 70 rfl 60 1 Try.underlying70 cin_sz (l.length + 1 - i) (cap - i) 1 _ rfl (chC x) (Src.rdl HR2.out) g (i) _ 60 rfl HC2.out 1 HKK.out.1 hfit3 (fun v hv => hx1.out v (List.mem_of_mem_take hv)) ?_; intro w3 hc3 hm3)
      go_ret
      obtain ⟨u1, u2, u3, u4⟩ := HM.out
      refine ⟨_, [g], rfl, ⟨?_, Or.inr ⟨g, cap, _, ?_, rfl, hc3.out, ?_, ?_, ?_, ?_⟩⟩, ((Mod.refl [g] w).drew.tr hm2.out).tr hm3.out, ?_⟩
      · rw [flat_len ch_lays]
      · rw [Hln.out]; rfl
      · rw [Hln.out]; exact hroom
      · simpa [maxLen] using hcap
      · have := HCS.out
        rw [splice_size, splice_size]
        · omega
        · rw [List.length_drop, hfl.out]; omega
        · rw [List.length_take, hxl.out, splice_size _ _ _ (by rw [List.length_drop, hfl.out]; omega)]; omega
      · have := HCS.out
        have e1 : (chC x).take (1 * 1) = chC x := List.take_of_length_le (by rw [hxl.out]; omega)
        rw [e1, Hln.out, u2, Hfl.out]
        exact splice2_take' cur _ _ _ _ _ hfl.out hxl.out hmi (by omega) HTK.out
      · intro k hk; exact Or.inl hk
  · obtain rfl : i = l.length := by omega
    obtain ⟨a, cap, rfl, hnc, hcap, _⟩ := ho.val
    have He : Hid (flat chC R = flat chC l ++ chC x) := by
      show _ = _
      have hff : (flat chC l).length = l.length := by rw [hfl.out, Nat.mul_one]
      rw [Hfl.out, ← hff, List.take_length, List.drop_length, List.append_nil]
    clear ho hb
    go_enter Try.func59, Try.ntmps59
    go_wp2_with (at_builtin; refine wpList_append_rdl rfl (.tmp 23) (.tmp 24) 70 60 rfl Try.underlying70 cin_el rfl (by decide) rfl HO.out rfl HR.out hx1.out (by omega) (by omega) ?_; intro v1 w1 L1 h1 h2 h3)
    all_goals
      go_ret
      refine ⟨v1, L1, rfl, ?_, h2.out, h3.out⟩
      rw [He.out, Hln.out]
      exact h1.out

end Go.Proofs.Ythofkkmnngmafaa
