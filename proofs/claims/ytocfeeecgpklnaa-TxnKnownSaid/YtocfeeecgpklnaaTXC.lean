/- slices.Insert of one element. -/
import Derived.Test.YtocfeeecgpklnaaK9
import Derived.WalkSpells
import Derived.Test.YtocfeeecgpklnaaTXB
namespace Go.Proofs.Ytocfeeecgpklnaa
set_option linter.unusedVariables false
set_option linter.unusedSimpArgs false
set_option linter.unusedSectionVars false
open Go.RowKit

theorem ins_el : (Try.prog.info? 32).map (fun i => (i.zero, i.size, i.bytes)) = some (some (rcV ⟨mt, 0, false, mt⟩), 4, 48) := by kernel_rfl
theorem ins_sz : (Try.prog.info? 32).map (·.size) = some 4 := by kernel_rfl

/-- What Insert leaves. -/
def insSays (w : World) (L : List Nat) (l : List Rc) (e : Ending) (w' : World) : Prop :=
  ∃ v' L', e = .returned v' ∧ Own w' 32 4 v' l.length (flat rcC l) L' ∧ Mod L w w' ∧ ∀ k ∈ L', k ∈ L ∨ w.heap.size ≤ k

theorem ins_flat (l : List Rc) (i : Nat) (x : Rc) : flat rcC (l.take i ++ x :: l.drop i) = (flat rcC l).take (i * 4) ++ (rcC x ++ (flat rcC l).drop (i * 4)) := by
  rw [← flat_take rc_lays, ← flat_drop rc_lays]
  simp [flat]
theorem ins_len (l : List Rc) (i : Nat) (x : Rc) : (l.take i ++ x :: l.drop i).length = l.length + 1 := by
  simp; omega

set_option maxRecDepth 100000 in
set_option maxHeartbeats 4000000 in
theorem ins_c (w : World) (v : Value) (l : List Rc) (i : Nat) (x : Rc) (b : Nat) (L : List Nat) (ho : Own w 32 4 v l.length (flat rcC l) L) (hi : i ≤ l.length) (hl : l.length ≤ 1000000) (hb : Blk w b (rcC x).toArray 32) (hbL : b ∉ L) :
    Calls Try.prog 46 #[v, .int .i64 i, .slice (some ⟨b, 0, none⟩) 1 1] w (insSays w L (l.take i ++ x :: l.drop i)) := by
  have HO := hid ho
  have hxl := hid (rc_lays.len x)
  have hfl := hid (flat_len rc_lays l)
  have hx1 := hid (rc_lays.one x)
  have HR : Hid (Rdl w 4 (.slice (some ⟨b, 0, none⟩) 1 1) 1 (rcC x)) := ⟨by rw [hxl.out], Or.inr ⟨b, 0, 1, rfl, fun j hj => by rw [Nat.zero_add, hb.cell]; simp⟩⟩
  have HBx := hid hb
  have Hfl := hid (ins_flat l i x)
  have Hln := hid (ins_len l i x)
  obtain ⟨R, hR⟩ : ∃ R, l.take i ++ x :: l.drop i = R := ⟨_, rfl⟩
  rw [hR] at Hfl Hln ⊢
  clear hR
  rcases Nat.lt_or_ge i l.length with hlt | hge
  · obtain ⟨a, cap, rfl, hnc, hcap, hg⟩ := ho.val
    obtain ⟨g, rfl, rfl, _⟩ := hg (by omega)
    have hbg : b ≠ g := by simpa using hbL
    have hblt := hb.lt
    have hz2 : ¬ ((i : Int) = (l.length : Int)) := by omega
    have hw1 : IntKind.i64.wrap ((i : Int) + 1) = (i : Int) + 1 := IntWalk.i64_in _ ⟨by omega, by omega⟩
    have hb1 : (0 : Int) ≤ (i : Int) + 1 := by omega
    have htn : ((i : Int) + 1).toNat = i + 1 := by omega
    have hb2 : ¬ (cap = i) := by omega
    have hmi : i * 4 ≤ l.length * 4 := Nat.mul_le_mul_right _ hi
    clear hb
    rcases Nat.lt_or_ge cap (l.length + 1) with hroom | hroom
    · -- no room: a new row
      obtain ⟨k, hk⟩ : ∃ k, l.length + 1 = i + k := ⟨l.length + 1 - i, by omega⟩
      have hki : ((l.length : Int) + 1 - (i : Int)) = (k : Int) := by omega
      obtain ⟨G, w1, cur1, hrun, hc1, hm1, hG1, hG2, hG3, htk⟩ := run_append_zeros_own (P := Try.prog) 39 3 39 32 Try.underlying39 Try.underlying3 ins_el rfl (by decide) ho i k hi (by omega) (by omega) (by omega) (by omega)
      rw [← hki, ← hk] at hrun
      rw [← hk] at hG1
      have hgl1 := hc1.lt
      have Hc1 := hid hc1
      have Hm1 := hid hm1
      have Htk := hid htk
      have hG4 : G ≤ 9223372036854775807 := by simpa [maxLen] using hG2
      have hGi : ¬ (G = i) := by omega
      have hGim : ¬ (G = i + 1) := by omega
      have hroomi : (cap : Int) < (l.length : Int) + 1 := by omega
      have HOw1 := hid (HO.out.mod hm1 (by simp))
      have HR1 := hid (HR.out.mod hm1 (by simp))
      have hg1ne : w.heap.size ≠ b := by omega
      have hglt : g < w.heap.size := ho.lt g (by simp)
      have hg1ne2 : w.heap.size ≠ g := by omega
      clear hc1 hm1 htk hki hk ho
      have hk1 : 1 = Nat.min (l.length + 1 - i) 1 := by show 1 = min (l.length + 1 - i) 1; omega
      have hk2 : l.length - i = Nat.min (l.length + 1 - (i + 1)) (l.length - i) := by show l.length - i = min (l.length + 1 - (i + 1)) (l.length - i); omega
      have HK1 := hid hk1
      have HK2 := hid hk2
      clear hk1 hk2
      have hmul : (l.length + 1) * 4 ≤ G * 4 := Nat.mul_le_mul_right _ hG1
      have hmul3 : (i + 1) * 4 = i * 4 + 4 := Nat.succ_mul _ _
      have hmul4 : (l.length + 1) * 4 = l.length * 4 + 4 := Nat.succ_mul _ _
      have hmul5 : i * 4 + (l.length - i) * 4 = l.length * 4 := by rw [← Nat.add_mul]; congr 1; omega
      have HU := hid (⟨hmul3, hmul4, hmul5⟩ : _ ∧ _ ∧ _)
      have hfit1 : i * 4 + 1 * 4 ≤ cur1.size := by omega
      have hds := hid ((Own.lx rc_lays HO.out).drop (k := i) (by omega) (l.length - i) (cap - i) rfl)
      clear hmul3 hmul4 hmul5
      have hgl : w.heap.size = w.heap.size := rfl
      generalize hgg : w.heap.size = g1 at *
      have Hgg := hid hgg
      clear hgg hgl
      go_enter Try.func46, Try.ntmps46
      go_upto_region 11 with (first
        | (at_builtin; refine Lib.wpList_append_run _ rfl _ _ _ _ rfl _ _ rfl rfl _ _ hrun ?_)
        | (refine wpList_copy_at rfl (.tmp 43) (.tmp 44) 39 39 rfl 32 4 Try.underlying39 ins_sz (l.length + 1 - i) (G - i) 1 _ rfl (rcC x) (Src.rdl HR1.out) g1 (i * 4) cur1 32 rfl Hc1.out 1 HK1.out hfit1 (fun v hv => hx1.out v (List.mem_of_mem_take hv)) ?_; intro w2 hc2 hm2))
      have hc2d := hid hc2.out.drew
      have hM2 := hid (hm2.out.drew)
      have hsd : Hid (Src Try.prog w2.drew (.slice (some ⟨g, i * 4, none⟩) (l.length - i) (cap - i)) 4 (l.length - i) (flat rcC (l.drop i))) := by
        have h := Lx.src rc_lays (P := Try.prog) (hds.out.mod ((Hm1.out.trans hm2.out (m := []) (by simp) (by intro y hy hlt; simp at hy; have := Hgg.out; omega)).drew))
        rw [Nat.zero_add, List.length_drop] at h
        exact h
      have hfit2 : (i + 1) * 4 + (l.length - i) * 4 ≤ (splice cur1 (i * 4) ((rcC x).take (1 * 4))).size := by
        obtain ⟨u1, u2, u3⟩ := HU.out
        rw [splice_size _ _ _ (by rw [List.length_take, hxl.out]; omega)]
        omega
      have hone := hid (flat_one rc_lays (l.drop i))
      clear hc2
      go_region_law (refine step_copy_at rfl (.tmp 50) (.tmp 53) 39 39 rfl 32 4 Try.underlying39 ins_sz (l.length + 1 - (i + 1)) (G - (i + 1)) (l.length - i) _ (by simp [Act.eval, Act.put]) (flat rcC (l.drop i)) hsd.out g1 ((i + 1) * 4) _ 32 (by simp [Act.eval, Act.put]) hc2d.out (l.length - i) HK2.out hfit2 (fun v hv => hone.out v (List.mem_of_mem_take hv)) ?_; intro w3 hc3 hm3)
      go_wp2
      go_ret
      obtain ⟨u1, u2, u3⟩ := HU.out
      have hmw : Mod [] w w3 := (Hm1.out.trans (hm2.out.drew.tr hm3.out) (m := []) (by simp) (by intro y hy hlt; simp at hy; have := Hgg.out; omega))
      refine ⟨_, [g1], rfl, ⟨?_, Or.inr ⟨g1, G, _, ?_, rfl, hc3.out, ?_, hG2, ?_, ?_⟩⟩, hmw.mono (by simp), ?_⟩
      · rw [flat_len rc_lays]
      · rw [Hln.out]; rfl
      · rw [Hln.out]; exact hG1
      · rw [splice_size, splice_size]
        · exact hG3
        · rw [List.length_take, hxl.out]; omega
        · rw [splice_size _ _ _ (by rw [List.length_take, hxl.out]; omega), List.length_take, flat_len rc_lays, List.length_drop]; omega
      · have e1 : (rcC x).take (1 * 4) = rcC x := List.take_of_length_le (by rw [hxl.out]; omega)
        have e2 : (flat rcC (l.drop i)).take ((l.length - i) * 4) = (flat rcC l).drop (i * 4) := by
          rw [List.take_of_length_le (by rw [flat_len rc_lays, List.length_drop]; omega), flat_drop rc_lays]
        rw [e1, e2, Hln.out, u2, u1, Hfl.out]
        exact splice2_take cur1 _ _ _ _ _ hfl.out hxl.out hmi (by omega) Htk.out
      · intro k hk; simp at hk; right; have := Hgg.out; omega
    · -- room: in place
      obtain ⟨cur, hcb, hcs, htk⟩ : ∃ cur, Blk w g cur 32 ∧ cap * 4 ≤ cur.size ∧ cur.toList.take (l.length * 4) = flat rcC l := by
        rcases ho.2 with ⟨h0, _⟩ | ⟨g', cap', cur, e, _, hb', _, _, h3, h4⟩
        · cases h0
        · simp only [Value.slice.injEq, Option.some.injEq, Addr.mk.injEq, and_true, true_and] at e
          obtain ⟨rfl, rfl⟩ := e
          exact ⟨cur, hb', h3, h4⟩
      have hmul3 : (i + 1) * 4 = i * 4 + 4 := Nat.succ_mul _ _
      have hmul4 : (l.length + 1) * 4 = l.length * 4 + 4 := Nat.succ_mul _ _
      have hmul5 : i * 4 + (l.length - i) * 4 = l.length * 4 := by rw [← Nat.add_mul]; congr 1; omega
      have hmul6 : (l.length + 1) * 4 ≤ cap * 4 := Nat.mul_le_mul_right _ hroom
      have hov : ∀ lb cb, (callFunc 63 #[.slice (some ⟨b, 0, none⟩) 1 1, .slice (some ⟨g, (i + 1) * 4, none⟩) lb cb]).run Try.prog w = .ok (.value (.bool false)) w := fun lb cb => by
        have hsz : ∀ w, (sizeOf 32).run Try.prog w = .ok 4 w := fun w => by kernel_rfl
        rw [run_callFunc_extern Try.func63 (by kernel_rfl) (by kernel_rfl) (by kernel_rfl) (e := Extern.SlicesOverlaps.overlaps #[39, 39] #[4]) (by kernel_rfl),
          Lib.run_overlaps_apart w 39 4 32 Try.underlying39 4 hsz ⟨b, 0, none⟩ ⟨g, (i + 1) * 4, none⟩ 1 1 lb cb hbg 32 32 (rcC x).toArray.size cur.size (by have := HBx.out; unfold Blk at this; simp [World.shape?, this]) (by unfold Blk at hcb; simp [World.shape?, hcb]) (by have := rc_lays.pos; omega) (HBx.out.free _) (HBx.out.free _)]
        rfl
      have hk1 : 1 = Nat.min (l.length + 1 - i) 1 := by show 1 = min (l.length + 1 - i) 1; omega
      have hk2 : l.length - i = Nat.min (l.length + 1 - (i + 1)) (l.length + 1 - i) := by show l.length - i = min (l.length + 1 - (i + 1)) (l.length + 1 - i); omega
      have hb3 : (i : Int) ≤ (l.length : Int) + 1 := by omega
      have hb4 : ¬ (cap = i + 1) := by omega
      have hb5 : (l.length : Int) + 1 ≤ (cap : Int) := by omega
      have hb6 : (i : Int) + 1 ≤ (l.length : Int) + 1 := by omega
      have hfit1 : (i + 1) * 4 + (l.length - i) * 4 ≤ cur.size := by omega
      have hsrc : Hid (Src Try.prog w.drew (.slice (some ⟨g, i * 4, none⟩) (l.length + 1 - i) (cap - i)) 4 (l.length + 1 - i) ((cur.toList.drop (i * 4)).take ((l.length + 1 - i) * 4))) := by
        have hm6 : i * 4 + (l.length + 1 - i) * 4 = (l.length + 1) * 4 := by rw [← Nat.add_mul]; congr 1; omega
        have hcl : cur.toList.length = cur.size := Array.length_toList
        have hlen : ((cur.toList.drop (i * 4)).take ((l.length + 1 - i) * 4)).length = (l.length + 1 - i) * 4 := by rw [List.length_take, List.length_drop, hcl]; exact Nat.min_eq_left (by omega)
        refine Src.slice (fun j hj => ?_) hlen
        rw [hlen] at hj
        rw [hcb.drew.cell, List.getElem?_take, if_pos hj, List.getElem?_drop]
        simp
      have hseg : ((cur.toList.drop (i * 4)).take ((l.length + 1 - i) * 4)).take ((l.length - i) * 4) = (flat rcC l).drop (i * 4) := by
        rw [List.take_take, Nat.min_eq_left (Nat.mul_le_mul_right _ (by omega)), ← htk, List.drop_take]
        congr 1
        omega
      have hone : Hid (∀ v ∈ ((cur.toList.drop (i * 4)).take ((l.length + 1 - i) * 4)).take ((l.length - i) * 4), v.oneCell' = true) := by
        intro v hv
        rw [hseg] at hv
        exact flat_one rc_lays l v (List.mem_of_mem_drop hv)
      have HSG := hid hseg
      clear hseg
      have HCB := hid hcb.drew
      have HKK := hid (⟨hk1, hk2⟩ : _ ∧ _)
      have HTK := hid htk
      have HM := hid (⟨hmul3, hmul4, hmul5, hmul6⟩ : _ ∧ _ ∧ _ ∧ _)
      have HCS := hid hcs
      clear hk1 hk2 hcb htk hmul3 hmul4 hmul5 hmul6 hcs ho
      go_enter Try.func46, Try.ntmps46
      go_upto_region 15 with (simp only [hov])
      go_region_law (refine step_copy_at rfl (.tmp 73) (.tmp 76) 39 39 rfl 32 4 Try.underlying39 ins_sz (l.length + 1 - (i + 1)) (cap - (i + 1)) (l.length + 1 - i) _ (by simp [Act.eval, Act.put]) _ hsrc.out g ((i + 1) * 4) _ 32 (by simp [Act.eval, Act.put]) HCB.out (l.length - i) HKK.out.2 hfit1 hone.out ?_; intro w2 hc2 hm2)
      have hc2' := hc2.out
      rw [HSG.out] at hc2'
      have HC2 := hid hc2'
      have HR2 := hid (HR.out.mod (((Mod.refl [g] w).drew).tr hm2.out) (by intro b' off' cap' hv; simp only [Value.slice.injEq, Option.some.injEq, Addr.mk.injEq, and_true] at hv; rw [← hv.1.1]; simpa using hbg))
      have hfit3 : i * 4 + 1 * 4 ≤ (splice cur ((i + 1) * 4) ((flat rcC l).drop (i * 4))).size := by
        obtain ⟨u1, u2, u3, u4⟩ := HM.out
        have := HCS.out
        rw [splice_size _ _ _ (by rw [List.length_drop, hfl.out]; omega)]
        omega
      clear hc2 hc2' hsrc hone HSG HCB
      go_wp2_with (refine wpList_copy_at rfl (.tmp 80) (.tmp 81) 39 39 rfl 32 4 Try.underlying39 ins_sz (l.length + 1 - i) (cap - i) 1 _ rfl (rcC x) (Src.rdl HR2.out) g (i * 4) _ 32 rfl HC2.out 1 HKK.out.1 hfit3 (fun v hv => hx1.out v (List.mem_of_mem_take hv)) ?_; intro w3 hc3 hm3)
      go_ret
      obtain ⟨u1, u2, u3, u4⟩ := HM.out
      refine ⟨_, [g], rfl, ⟨?_, Or.inr ⟨g, cap, _, ?_, rfl, hc3.out, ?_, ?_, ?_, ?_⟩⟩, ((Mod.refl [g] w).drew.tr hm2.out).tr hm3.out, ?_⟩
      · rw [flat_len rc_lays]
      · rw [Hln.out]; rfl
      · rw [Hln.out]; exact hroom
      · simpa [maxLen] using hcap
      · have := HCS.out
        rw [splice_size, splice_size]
        · omega
        · rw [List.length_drop, hfl.out]; omega
        · rw [List.length_take, hxl.out, splice_size _ _ _ (by rw [List.length_drop, hfl.out]; omega)]; omega
      · have := HCS.out
        have e1 : (rcC x).take (1 * 4) = rcC x := List.take_of_length_le (by rw [hxl.out]; omega)
        rw [e1, Hln.out, u2, u1, Hfl.out]
        exact splice2_take' cur _ _ _ _ _ hfl.out hxl.out hmi (by omega) HTK.out
      · intro k hk; exact Or.inl hk
  · obtain rfl : i = l.length := by omega
    obtain ⟨a, cap, rfl, hnc, hcap, _⟩ := ho.val
    have He : Hid (flat rcC R = flat rcC l ++ rcC x) := by
      show _ = _
      rw [Hfl.out, ← hfl.out, List.take_length, List.drop_length, List.append_nil]
    clear ho hb
    go_enter Try.func46, Try.ntmps46
    go_wp2_with (at_builtin; refine wpList_append_rdl rfl (.tmp 23) (.tmp 24) 39 32 rfl Try.underlying39 ins_el rfl (by decide) rfl HO.out rfl HR.out hx1.out (by omega) (by omega) ?_; intro v1 w1 L1 h1 h2 h3)
    all_goals
      go_ret
      refine ⟨v1, L1, rfl, ?_, h2.out, h3.out⟩
      rw [He.out, Hln.out]
      exact h1.out

/-- What Clone leaves. -/
def OwnSays (w : World) (l : List Rc) (e : Ending) (w' : World) : Prop :=
  ∃ v L, e = .returned v ∧ Own w' 32 4 v l.length (flat rcC l) L ∧ Mod [] w w' ∧ ∀ k ∈ L, w.heap.size ≤ k

set_option maxRecDepth 100000 in
set_option maxHeartbeats 1000000 in
theorem clone_c (w : World) (v : Value) (l : List Rc) (L : List Nat) (ho : Own w 32 4 v l.length (flat rcC l) L) (hl : l.length ≤ 1000000) :
    Calls Try.prog 47 #[v] w (OwnSays w l) := by
  rcases ho.2 with ⟨rfl, h0, rfl⟩ | ⟨g, cap, cur, rfl, rfl, hb, h1, h2, h3, h4⟩
  · have hnil := List.eq_nil_of_length_eq_zero h0
    subst hnil
    have hq := Lib.run_eql_slice_nil (P := Try.prog) w 39 32 none 0 0 0 0 Try.underlying39
    go_enter Try.func47, Try.ntmps47
    go_wp2
    go_ret
    exact ⟨_, [], rfl, Own.nil _ _ 4, Mod.refl _ _, by simp⟩
  · have hq := Lib.run_eql_slice_nil (P := Try.prog) w 39 32 (some ⟨g, 0, none⟩) l.length cap 0 0 Try.underlying39
    have HX : Hid (Lx 4 rcC (w.alloc (.cells #[] 32)) (.slice (some ⟨g, 0, none⟩) l.length cap) l) := (Own.lx rc_lays ho).mod ((Mod.refl [] w).alloc _)
    have HE : Hid (Own (w.alloc (.cells #[] 32)) 32 4 (.slice (some ⟨w.heap.size, 0, none⟩) 0 0) 0 [] [w.heap.size]) := ⟨by simp, Or.inr ⟨w.heap.size, 0, _, rfl, rfl, Blk.new _ _ _, Nat.le_refl _, by simp [maxLen], by simp, by simp⟩⟩
    clear ho hb
    go_enter Try.func47, Try.ntmps47
    go_wp2_with (at_builtin; refine wpList_append_lx rc_lays rfl (.tmp 5) (.tmp 6) 39 32 rfl Try.underlying39 ins_el rfl rfl HE.out rfl HX.out (by omega) (by omega) ?_; intro v1 w1 L1 h1 h2 h3)
    go_ret
    refine ⟨v1, L1, rfl, ?_, ((Mod.refl [] w).alloc _).trans h2.out (by simp) (by intro x hx hlt; simp at hx; omega), ?_⟩
    · have h := h1.out
      rw [Nat.zero_add, List.nil_append] at h
      exact h
    · intro k hk
      rcases h3.out k hk with h | h
      · simp at h; omega
      · simp at h; omega

end Go.Proofs.Ytocfeeecgpklnaa
