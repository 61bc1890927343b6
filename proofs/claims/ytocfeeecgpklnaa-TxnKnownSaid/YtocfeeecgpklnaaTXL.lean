/- works. -/
import Derived.Test.YtocfeeecgpklnaaTXK
namespace Go.Proofs.Ytocfeeecgpklnaa
set_option linter.unusedVariables false
set_option linter.unusedSimpArgs false
set_option linter.unusedSectionVars false
open Go.RowKit Go.Shelf

theorem callT_ops (t : Tx) (c : Cl) (n : Nat) : (callT t c n).ops = t.ops := by unfold callT; split <;> rfl
theorem callT_calls (t : Tx) (c : Cl) (n : Nat) : (callT t c n).calls ≤ t.calls + 1 := by unfold callT; split <;> simp
theorem answerT_ops (t : Tx) (n : Nat) : (answerT t n).ops = t.ops := by unfold answerT; split <;> rfl
theorem answerT_calls (t : Tx) (n : Nat) : (answerT t n).calls = t.calls := by unfold answerT; split <;> rfl
theorem Kr.nil : Kr [] := by first | exact List.Pairwise.nil | (intro i j x y h1 h2; simp at *) | simp [Kr]

abbrev wc1 : Cl := ⟨1, 5, ⟨#[97]⟩, ⟨#[]⟩, ⟨#[]⟩⟩
abbrev wc2 : Cl := ⟨1, 5, ⟨#[98]⟩, ⟨#[]⟩, ⟨#[]⟩⟩
abbrev wc3 : Cl := ⟨5, 5, ⟨#[]⟩, ⟨#[]⟩, ⟨#[]⟩⟩
abbrev wo : Oc := ⟨0, 0, 0, true, ⟨#[120]⟩, none, 0, 0⟩
abbrev wt0 : Tx := tx0 5 0
abbrev wt1 : Tx := callT wt0 wc1 1
abbrev wt2 : Tx := callT wt1 wc2 1
abbrev wt3 : Tx := answerT wt2 2
abbrev wt4 : Tx := callT wt3 wc3 3
abbrev wt5 : Tx := logT wt4 9
abbrev wt6 : Tx := endT wt5 0
theorem we1 : callE wt0 wc1 = 0 ∧ callN wt0 wc1 = 1 := by constructor <;> kernel_rfl
theorem we2 : callE wt1 wc2 = 12 := by kernel_rfl
theorem we3 : answerE wt2 = 0 ∧ (answerO wt2 wo).ts = 5 ∧ (answerO wt2 wo).n = 1 ∧ (answerO wt2 wo).val = ⟨#[120]⟩ := by refine ⟨?_, ?_, ?_, ?_⟩ <;> kernel_rfl
theorem we4 : callE wt3 wc3 = 0 ∧ callN wt3 wc3 = 2 := by constructor <;> kernel_rfl
theorem we5 : logE wt4 = 0 := by kernel_rfl
theorem we6 : endB wt5 = true ∧ (endO wt5 0).n = 2 ∧ (endO wt5 0).err = 0 ∧ wt6.state = 4 := by refine ⟨?_, ?_, ?_, ?_⟩ <;> kernel_rfl

/-- What is made since a world. -/
structure Fr (w0 : World) (R : Res) (w : World) (L : List Nat) : Prop where
  res : R w L
  mod : Mod [] w0 w
  new : ∀ k ∈ L, w0.heap.size ≤ k
theorem Fr.next {w0 w w' : World} {R R' : Res} {L : List Nat} {r : Value} {e : Ending} (h : Fr w0 R w L) (s : Says w L r R' e w') :
    e = .returned r ∧ ∃ L', Fr w0 R' w' L' ∧ Mod L w w' ∧ ∀ k, k < w.heap.size → k ∉ L → k ∉ L' := by
  obtain ⟨rfl, L', h1, h2, h3⟩ := s
  have hz := h.mod.size
  exact ⟨rfl, L', ⟨h1, h.mod.trans h2 (fun x hx _ => hx) (fun x hx hlt => absurd (h.new x hx) (by omega)), fun k hk => (h3 k hk).elim (h.new k) (by omega)⟩, h2, fun k hk hn hk' => (h3 k hk').elim hn (by omega)⟩
theorem Fr.step {w0 w w' : World} {R : Res} [Keep R] {L : List Nat} (h : Fr w0 R w L) (m : Mod [] w w') : Fr w0 R w' L :=
  ⟨Keep.mod h.res m (by simp), h.mod.tr m, h.new⟩

set_option maxRecDepth 100000 in
set_option maxHeartbeats 2000000 in
theorem works_c (w : World) : Calls Try.prog 10 #[] w fun e w' => e = .returned (.bool true) ∧ Mod [] w w' := by
  have e1 := we1
  have e2 := we2
  have e3 := we3
  have e4 := we4
  have e5 := we5
  have e6 := we6
  have o1 : wt1.ops = [] := callT_ops _ _ _
  have c1 : wt1.calls ≤ 1 := callT_calls _ _ _
  have o2 : wt2.ops = [] := (callT_ops _ _ _).trans o1
  have c2 : wt2.calls ≤ 2 := Nat.le_trans (callT_calls _ _ _) (by omega)
  have o3 : wt3.ops = [] := (answerT_ops _ _).trans o2
  have c3 : wt3.calls ≤ 2 := by rw [show wt3.calls = wt2.calls from answerT_calls _ _]; exact c2
  have E1 := hid e1
  have E2 := hid e2
  have E3 := hid e3
  have E4 := hid e4
  have E5 := hid e5
  have E6 := hid e6
  have O1 := hid o1
  have O3 := hid o3
  have C1 := hid c1
  have C3 := hid c3
  clear e1 e2 e3 e4 e5 e6 o1 o2 o3 c1 c2 c3
  go_enter Try.func10, Try.ntmps10
  go_wp2_with fail
  refine (new_c w 5 0 (by decide)).mono ?_
  intro e w1 hs
  obtain ⟨rfl, L1, F1, _, _⟩ := Fr.next (R := emp) (L := []) ⟨rfl, Mod.refl [] w, by simp⟩ hs
  clear hs
  have H1 := hid F1
  have W0 : Hid (∀ X, Mod [] w X → True) := fun _ _ => trivial
  clear F1
  generalize w.heap.size = b at *
  go_wp2_with fail
  refine (call_c w1 b wt0 wc1 1 L1 H1.out.res Kr.nil (by decide) (by decide)).mono ?_
  intro e w2 hs
  obtain ⟨rfl, L2, F2, _, _⟩ := H1.out.next hs
  rw [E1.out.1, E1.out.2]
  have H2 := hid F2
  clear F2 hs H1
  go_wp2_with fail
  refine (call_c w2 b wt1 wc2 1 L2 H2.out.res (by rw [O1.out]; exact Kr.nil) (by rw [O1.out]; decide) (by have := C1.out; omega)).mono ?_
  intro e w3 hs
  obtain ⟨rfl, L3, F3, _, _⟩ := H2.out.next hs
  rw [E2.out]
  have H3 := hid F3
  clear F3 hs H2
  go_wp2_with fail
  refine (answer_c w3 b wt2 wo 2 L3 H3.out.res).mono ?_
  intro e w4 hs
  obtain ⟨rfl, L4, F4, _, _⟩ := H3.out.next hs
  rw [E3.out.1]
  have H4 := hid F4
  clear F4 hs H3
  go_upto_region 7 with (fail)
  have hk4 : w4.heap.size ∉ L4 := fun h => absurd (Keep.lt H4.out.res _ h) (by omega)
  have hB4 := Blk.new w4 (ocC (answerO wt2 wo)) 54
  have hF5 := H4.out.step ((Mod.refl [] w4).alloc (.cells (ocC (answerO wt2 wo)) 54))
  have hl4 := hB4.lt
  have B5 := hid hB4
  have H5 := hid hF5
  have N5 := hid hk4
  clear hB4 hF5 H4 hk4
  generalize w4.alloc (.cells (ocC (answerO wt2 wo)) 54) = w5 at *
  generalize w4.heap.size = k at *
  go_wp2_with fail
  refine (call_c w5 b wt3 wc3 3 L4 H5.out.res (by rw [O3.out]; exact Kr.nil) (by rw [O3.out]; decide) (by have := C3.out; omega)).mono ?_
  intro e w6 hs
  obtain ⟨rfl, L6, F6, m6, n6⟩ := H5.out.next hs
  rw [E4.out.1, E4.out.2]
  have B6 := hid (m6.blk B5.out N5.out)
  have N6 := hid (n6 k hl4 N5.out)
  have hl6 := B6.out.lt
  have H6 := hid F6
  clear F6 hs H5 m6 n6 hl4 B5 N5
  go_wp2_with fail
  refine (log_c w6 b wt4 9 L6 H6.out.res).mono ?_
  intro e w7 hs
  obtain ⟨rfl, L7, F7, m7, n7⟩ := H6.out.next hs
  rw [E5.out]
  have B7 := hid (m7.blk B6.out N6.out)
  have N7 := hid (n7 k hl6 N6.out)
  have hl7 := B7.out.lt
  have H7 := hid F7
  clear F7 hs H6 m7 n7 hl6 B6 N6
  go_wp2_with fail
  refine (end_c w7 b wt5 0 L7 H7.out.res).mono ?_
  intro e w8 hs
  obtain ⟨rfl, L8, F8, m8, n8⟩ := H7.out.next hs
  rw [E6.out.1]
  have hB8 := (m8.blk B7.out N7.out).alloc (.cells (ocC (endO wt5 0)) 54)
  have hB9 := Blk.new w8 (ocC (endO wt5 0)) 54
  have hF9 := F8.step ((Mod.refl [] w8).alloc (.cells (ocC (endO wt5 0)) 54))
  have H9 := hid hF9
  have k0 := hB8.cell 0
  have k1 := hB8.cell 1
  have k4 := hB8.cell 4
  have j1 := hB9.cell 1
  have j2 := hB9.cell 2
  simp only [List.getElem?_toArray, List.getElem?_cons_zero, List.getElem?_cons_succ] at k0 k1 k4 j1 j2
  rw [E3.out.2.1] at k0
  rw [E3.out.2.2.1] at k1
  rw [E3.out.2.2.2] at k4
  rw [E6.out.2.1] at j1
  rw [E6.out.2.2.1] at j2
  have hlk := hB8.lt
  have hlj := hB9.lt
  clear F8 hs H7 m8 n8 hl7 B7 N7 hB8 hB9 hF9
  go_upto_region 10 with (fail)
  generalize w8.alloc (.cells (ocC (endO wt5 0)) 54) = w9 at *
  generalize w8.heap.size = j at *
  go_wp2_with (go_at_call 14; refine (state_c w9 b wt6 L8 H9.out.res).mono ?_; rintro e w' ⟨rfl, rfl⟩; rw [E6.out.2.2.2])
  go_ret
  exact ⟨rfl, H9.out.mod⟩
end Go.Proofs.Ytocfeeecgpklnaa
