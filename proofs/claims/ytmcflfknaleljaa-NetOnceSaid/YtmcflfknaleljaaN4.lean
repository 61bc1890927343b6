/- The bag: what Drop does to it. -/
import Derived.Test.YtmcflfknaleljaaN3
import Derived.Deep.RegionHeld3
import Derived.Test.YtmcflfknaleljaaH1
namespace Go.Proofs.Ytmcflfknaleljaa
set_option linter.unusedVariables false
set_option linter.unusedSimpArgs false
set_option linter.unusedSectionVars false
open Go.RowKit

def dropL (fs : List Fr) (k : Nat) : List Fr := fs.take k ++ fs.drop (k + 1)

theorem frCells_take (fs : List Fr) : ∀ k, frCells (fs.take k) = (frCells fs).take (k * 2) := by
  induction fs with
  | nil => intro k; simp [frCells]
  | cons f fs ih =>
    intro k
    cases k with
    | zero => simp [frCells]
    | succ k =>
      have e : (k + 1) * 2 = k * 2 + 1 + 1 := by omega
      have hc : ∀ l, frCells (f :: l) = .int .i64 f.dst :: .string f.s :: frCells l := fun _ => rfl
      rw [List.take_succ_cons, hc, hc, e, List.take_succ_cons, List.take_succ_cons, ih]
theorem frCells_drop (fs : List Fr) : ∀ k, frCells (fs.drop k) = (frCells fs).drop (k * 2) := by
  induction fs with
  | nil => intro k; simp [frCells]
  | cons f fs ih =>
    intro k
    cases k with
    | zero => simp
    | succ k =>
      have e : (k + 1) * 2 = k * 2 + 1 + 1 := by omega
      have hc : ∀ l, frCells (f :: l) = .int .i64 f.dst :: .string f.s :: frCells l := fun _ => rfl
      rw [List.drop_succ_cons, hc, e, List.drop_succ_cons, List.drop_succ_cons, ih]

theorem take_rdl {w : World} {fs : List Fr} {g cap k : Nat} {M : List Nat} (h : Own w 30 2 (.slice (some ⟨g, 0, none⟩) fs.length cap) fs.length (frCells fs) M) (hk : k ≤ fs.length) : Rdl w 2 (.slice (some ⟨g, 0, none⟩) k cap) k (frCells (fs.take k)) := by
  obtain ⟨a, cp, hv, _, _, hc⟩ := h.val
  simp only [Value.slice.injEq, true_and] at hv
  obtain ⟨rfl, rfl⟩ := hv
  refine ⟨by rw [frCells_len]; simp; omega, Or.inr ⟨g, 0, cap, rfl, fun j hj => ?_⟩⟩
  obtain ⟨g', hg', _, hcell⟩ := hc (by omega)
  simp at hg'
  subst hg'
  rw [Nat.zero_add, hcell j (by omega), frCells_take, List.getElem?_take, if_pos hj]

theorem drop_rdl {w : World} {fs : List Fr} {g cap k : Nat} {M : List Nat} (h : Own w 30 2 (.slice (some ⟨g, 0, none⟩) fs.length cap) fs.length (frCells fs) M) (hk : k ≤ fs.length) : Rdl w 2 (.slice (some ⟨g, k * 2, none⟩) (fs.length - k) (cap - k)) (fs.length - k) (frCells (fs.drop k)) := by
  obtain ⟨a, cp, hv, _, _, hc⟩ := h.val
  simp only [Value.slice.injEq, true_and] at hv
  obtain ⟨rfl, rfl⟩ := hv
  refine ⟨by rw [frCells_len]; simp, Or.inr ⟨g, k * 2, _, rfl, fun j hj => ?_⟩⟩
  obtain ⟨g', hg', _, hcell⟩ := hc (by omega)
  simp at hg'
  subst hg'
  rw [hcell _ (by omega), frCells_drop, List.getElem?_drop]

theorem empty_rdl {w : World} {fs : List Fr} {g k : Nat} (hk : fs.length ≤ k) : Rdl w 2 (.slice (some ⟨g, 0, none⟩) 0 0) 0 (frCells (fs.drop k)) := by
  rw [List.drop_of_length_le hk]
  exact ⟨rfl, Or.inr ⟨g, 0, 0, rfl, fun j hj => by omega⟩⟩

theorem upd_end {T : TypeId} {w W X w1 : World} {b n : Nat} {fs' : List Fr} {c : List Value} {v v1 : Value} {R L0 L1 : List Nat} (h1 : Blk w b #[v] T) (h3 : b ∉ R) (hlt : ∀ k ∈ R, k < w.heap.size) (hW : Mod [] w W) (hX : Mod [] W X) (hm : Mod L0 X w1) (h0 : ∀ k ∈ L0, k ∈ R)
    (ho : Own w1 30 2 v1 n c L1) (hf : ∀ k ∈ L1, k ∈ R ∨ X.heap.size ≤ k) (hn : fs'.length = n) (hc : frCells fs' = c) (r : Value) :
    NetSays T w b (b :: R) r fs' (.returned r) (w1.setCell ⟨b, 0, none⟩ v1) := by
  subst hn hc
  have hb := h1.lt
  have hwx : Mod [] w X := hW.tr hX
  have hbL : b ∉ L1 := by
    intro hk
    rcases hf b hk with h | h
    · exact h3 h
    · have := hwx.size; omega
  have hbk : Blk w1 b #[v] T := hm.blk (hwx.blk h1 (by simp)) (fun h => h3 (h0 b h))
  refine ⟨rfl, b :: L1, ⟨v1, L1, hbk.set 0 v1, ?_, rfl, hbL⟩, ?_, ?_⟩
  · exact ho.mod (M := [b]) ((Mod.refl _ _).setCell (by simp) _) (by intro k hk; simp; rintro rfl; exact hbL hk)
  · exact (hwx.trans hm (m := b :: R) (by simp) (by intro x hx _; simp [h0 x hx])).setCell (by simp) _
  · intro k hk
    simp at hk
    rcases hk with rfl | hk
    · exact Or.inl (by simp)
    · rcases hf k hk with h | h
      · exact Or.inl (by simp [h])
      · exact Or.inr (by have := hwx.size; omega)

set_option maxRecDepth 100000 in
set_option maxHeartbeats 2000000 in
theorem dropf_c (T T1 T2 : TypeId) (w : World) (b c1 c2 k : Nat) (fs : List Fr) (L : List Nat) (fv : Fr) (h : NetAt T w b fs L) (hk : k < fs.length) (hc1 : Blk w c1 #[.pointer (some ⟨b, 0, none⟩)] T1) (hc2 : Blk w c2 #[.int .i64 k] T2) (hlen : fs.length ≤ 400) (hd1 : c1 ∉ L) (hd2 : c2 ∉ L) :
    Calls Try.prog 22 #[.agg #[.int .i64 fv.dst, .string fv.s], .pointer (some ⟨c1, 0, none⟩), .pointer (some ⟨c2, 0, none⟩)] w (NetSays T w b L (.int .i64 0) (dropL fs k)) := by
  obtain ⟨v, R, h1, h2, rfl, h3⟩ := h
  obtain ⟨a, cap, hv, hn1, hn2, hrow⟩ := h2.val
  subst hv
  obtain ⟨g, rfl, rfl, _⟩ := hrow (by omega)
  have hl := h1.lt
  have hl1 := hc1.lt
  have hl2 := hc2.lt
  have h1' := hid h1
  have h2' := hid h2
  have h3' := hid h3
  have hp1 := hc1.cell 0
  have hp2 := hc2.cell 0
  have hp := h1.cell 0
  simp at hp hp1 hp2
  have hg := h2.lt g (by simp)
  clear h1 h2 h3 hc1 hc2 hrow
  go_enter Try.func22, Try.ntmps22
  go_upto_region 1 with (fail)
  have hW := (Mod.refl [] w).alloc (.cells #[.int .i64 fv.dst, .string fv.s] 30)
  have hp1' := hW.cellSome hp1 (by simp)
  have hp2' := hW.cellSome hp2 (by simp)
  have hp' := hW.cellSome hp (by simp)
  have hW' := hid hW
  generalize w.alloc (.cells #[.int .i64 fv.dst, .string fv.s] 30) = W at *
  clear hW hp hp1 hp2
  have hX := hid (hW'.out.drew)
  have hsW := hW'.out.size
  have hbW : b < W.heap.size := by omega
  have hcW1 : c1 < W.heap.size := by omega
  have hcW2 : c2 < W.heap.size := by omega
  have hgW : g < W.heap.size := by omega
  have hkc : k ≤ cap := by omega
  have hkl : k + 1 ≤ fs.length := by omega
  have hw1 : IntKind.i64.wrap ((k : Int) + 1) = (k : Int) + 1 := IntWalk.i64_in _ ⟨by omega, by omega⟩
  have hi1 : (0 : Int) ≤ (k : Int) := by omega
  have hi2 : (k : Int) ≤ (cap : Int) := by omega
  have hi3 : (k : Int) + 1 ≤ (fs.length : Int) := by omega
  have hi4 : (k : Int) + 1 ≤ (cap : Int) := by omega
  have hi5 : (0 : Int) ≤ (k : Int) + 1 := by omega
  have hbc1 : c1 ≠ b := by intro h; exact hd1 (by simp [h])
  have hbc2 : c2 ≠ b := by intro h; exact hd2 (by simp [h])
  rcases Nat.lt_or_ge (k + 1) cap with hcp | hcp
  case' inl =>
    have hne : ¬ cap = k + 1 := by omega
  case' inr =>
    have hE : k + 1 = cap := by omega
  case' inl =>
    have hR2 : Hid (∀ X, Mod [] W X → Rdl X 2 (.slice (some ⟨g, (k + 1) * 2, none⟩) (fs.length - (k + 1)) (cap - (k + 1))) (fs.length - (k + 1)) (frCells (fs.drop (k + 1)))) := fun X hX => (drop_rdl h2'.out hkl).mod (hW'.out.tr hX) (by simp)
  case' inr =>
    have hR2 : Hid (∀ X, Mod [] W X → Rdl X 2 (.slice (some ⟨g, 0, none⟩) 0 0) 0 (frCells (fs.drop (k + 1)))) := fun X hX => empty_rdl (by omega)
  all_goals
    have hR1 : Hid (∀ X, Mod [] W X → Rdl X 2 (.slice (some ⟨g, 0, none⟩) k cap) k (frCells (fs.take k))) := fun X hX => (take_rdl h2'.out (by omega)).mod (hW'.out.tr hX) (by simp)
    refine wp_region_K 18 (fun w' => w'.cell? ⟨c1, 0, none⟩ = some (.pointer (some ⟨b, 0, none⟩)) ∧ w'.cell? ⟨c2, 0, none⟩ = some (.int .i64 k) ∧ w'.cell? ⟨b, 0, none⟩ = some (.slice (some ⟨g, 0, none⟩) fs.length cap)) (by rfl) ?_
    have hS := And.intro ((Mod.refl [] W).drew.cellSome hp1' (by simp)) (And.intro ((Mod.refl [] W).drew.cellSome hp2' (by simp)) ((Mod.refl [] W).drew.cellSome hp' (by simp)))
    refine wpAnyK_take [18, 17, 16, 0] (i := 0) (v := ?_) rfl (by kernel_rfl) (by kernel_rfl) (by kernel_rfl) (by kernel_rfl) (by rfl) (fun _ _ _ h => h) (Or.inl ⟨by rfl, ?_⟩) hS ?_
    rotate_left
    · intro w hSw; obtain ⟨y1, y2, y3⟩ := hSw; go_simp; try with_reducible rfl
    simp only [Act.put, List.setIfInBounds_toArray, List.set_cons_zero, List.set_cons_succ]
    refine wpAnyK_take [18, 15, 14, 6, 4, 3, 2, 1] (i := 1) (v := ?_) rfl (by kernel_rfl) (by kernel_rfl) (by kernel_rfl) (by kernel_rfl) (by rfl) (fun _ _ _ h => h) (Or.inl ⟨by rfl, ?_⟩) hS ?_
    rotate_left
    · intro w hSw; obtain ⟨y1, y2, y3⟩ := hSw; go_simp; try with_reducible rfl
    simp only [Act.put, List.setIfInBounds_toArray, List.set_cons_zero, List.set_cons_succ]
    refine wpAnyK_take [18, 15, 14, 6, 4, 3, 2] (i := 2) (v := ?_) rfl (by kernel_rfl) (by kernel_rfl) (by kernel_rfl) (by kernel_rfl) (by rfl) (fun _ _ _ h => h) (Or.inl ⟨by rfl, ?_⟩) hS ?_
    rotate_left
    · intro w hSw; obtain ⟨y1, y2, y3⟩ := hSw; go_simp; try with_reducible rfl
    simp only [Act.put, List.setIfInBounds_toArray, List.set_cons_zero, List.set_cons_succ]
    refine wpAnyK_take [18, 15, 14, 6, 4, 3] (i := 3) (v := ?_) rfl (by kernel_rfl) (by kernel_rfl) (by kernel_rfl) (by kernel_rfl) (by rfl) (fun _ _ _ h => h) (Or.inl ⟨by rfl, ?_⟩) hS ?_
    rotate_left
    · intro w hSw; obtain ⟨y1, y2, y3⟩ := hSw; go_simp; try with_reducible rfl
    simp only [Act.put, List.setIfInBounds_toArray, List.set_cons_zero, List.set_cons_succ]
    refine wpAnyK_take [18, 15, 14, 6, 4] (i := 4) (v := ?_) rfl (by kernel_rfl) (by kernel_rfl) (by kernel_rfl) (by kernel_rfl) (by rfl) (fun _ _ _ h => h) (Or.inl ⟨by rfl, ?_⟩) hS ?_
    rotate_left
    · intro w hSw; obtain ⟨y1, y2, y3⟩ := hSw; go_simp; try with_reducible rfl
    simp only [Act.put, List.setIfInBounds_toArray, List.set_cons_zero, List.set_cons_succ]
    refine wpAnyK_take [18, 15, 14, 6, 5] (i := 5) (v := ?_) rfl (by kernel_rfl) (by kernel_rfl) (by kernel_rfl) (by kernel_rfl) (by rfl) (fun _ _ _ h => h) (Or.inl ⟨by rfl, ?_⟩) hS ?_
    rotate_left
    · intro w hSw; obtain ⟨y1, y2, y3⟩ := hSw; go_simp; try with_reducible rfl
    simp only [Act.put, List.setIfInBounds_toArray, List.set_cons_zero, List.set_cons_succ]
    refine wpAnyK_take [18, 15, 14, 6] (i := 6) (v := ?_) rfl (by kernel_rfl) (by kernel_rfl) (by kernel_rfl) (by kernel_rfl) (by rfl) (fun _ _ _ h => h) (Or.inl ⟨by rfl, ?_⟩) hS ?_
    rotate_left
    · intro w hSw; obtain ⟨y1, y2, y3⟩ := hSw; go_simp; try with_reducible rfl
    simp only [Act.put, List.setIfInBounds_toArray, List.set_cons_zero, List.set_cons_succ]
    refine wpAnyK_take [18, 15, 14, 13, 10, 9, 8, 7] (i := 7) (v := ?_) rfl (by kernel_rfl) (by kernel_rfl) (by kernel_rfl) (by kernel_rfl) (by rfl) (fun _ _ _ h => h) (Or.inl ⟨by rfl, ?_⟩) hS ?_
    rotate_left
    · intro w hSw; obtain ⟨y1, y2, y3⟩ := hSw; go_simp; try with_reducible rfl
    simp only [Act.put, List.setIfInBounds_toArray, List.set_cons_zero, List.set_cons_succ]
    refine wpAnyK_take [18, 15, 14, 13, 10, 9, 8] (i := 8) (v := ?_) rfl (by kernel_rfl) (by kernel_rfl) (by kernel_rfl) (by kernel_rfl) (by rfl) (fun _ _ _ h => h) (Or.inl ⟨by rfl, ?_⟩) hS ?_
    rotate_left
    · intro w hSw; obtain ⟨y1, y2, y3⟩ := hSw; go_simp; try with_reducible rfl
    simp only [Act.put, List.setIfInBounds_toArray, List.set_cons_zero, List.set_cons_succ]
    refine wpAnyK_take [18, 15, 14, 13, 10, 9] (i := 9) (v := ?_) rfl (by kernel_rfl) (by kernel_rfl) (by kernel_rfl) (by kernel_rfl) (by rfl) (fun _ _ _ h => h) (Or.inl ⟨by rfl, ?_⟩) hS ?_
    rotate_left
    · intro w hSw; obtain ⟨y1, y2, y3⟩ := hSw; go_simp; try with_reducible rfl
    simp only [Act.put, List.setIfInBounds_toArray, List.set_cons_zero, List.set_cons_succ]
    refine wpAnyK_take [18, 15, 14, 13, 10] (i := 10) (v := ?_) rfl (by kernel_rfl) (by kernel_rfl) (by kernel_rfl) (by kernel_rfl) (by rfl) (fun _ _ _ h => h) (Or.inl ⟨by rfl, ?_⟩) hS ?_
    rotate_left
    · intro w hSw; obtain ⟨y1, y2, y3⟩ := hSw; go_simp; try with_reducible rfl
    simp only [Act.put, List.setIfInBounds_toArray, List.set_cons_zero, List.set_cons_succ]
    refine wpAnyK_take [18, 15, 14, 13, 12, 11] (i := 11) (v := ?_) rfl (by kernel_rfl) (by kernel_rfl) (by kernel_rfl) (by kernel_rfl) (by rfl) (fun _ _ _ h => h) (Or.inl ⟨by rfl, ?_⟩) hS ?_
    rotate_left
    · intro w hSw; obtain ⟨y1, y2, y3⟩ := hSw; go_simp; try with_reducible rfl
    simp only [Act.put, List.setIfInBounds_toArray, List.set_cons_zero, List.set_cons_succ]
    refine wpAnyK_take [18, 15, 14, 13, 12] (i := 12) (v := ?_) rfl (by kernel_rfl) (by kernel_rfl) (by kernel_rfl) (by kernel_rfl) (by rfl) (fun _ _ _ h => h) (Or.inl ⟨by rfl, ?_⟩) hS ?_
    rotate_left
    · intro w hSw; obtain ⟨y1, y2, y3⟩ := hSw; go_simp; try with_reducible rfl
    simp only [Act.put, List.setIfInBounds_toArray, List.set_cons_zero, List.set_cons_succ]
    refine wpAnyK_take [18, 15, 14, 13] (i := 13) (v := ?_) rfl (by kernel_rfl) (by kernel_rfl) (by kernel_rfl) (by kernel_rfl) (by rfl) (fun _ _ _ h => h) (Or.inl ⟨by rfl, ?_⟩) hS ?_
    rotate_left
    · intro w hSw; obtain ⟨y1, y2, y3⟩ := hSw; go_simp; try with_reducible rfl
    simp only [Act.put, List.setIfInBounds_toArray, List.set_cons_zero, List.set_cons_succ]
    refine wpAnyK_one (i := 14) (by kernel_rfl) rfl (by rfl) (fun K' hK => ?_)
    go_simp
    refine hK.out _ _ ⟨fun _ _ => ⟨by go_keep, by go_keep, by go_keep⟩, ?_⟩
    clear hK
    clear K'
    refine wpAnyK_one (i := 15) (by kernel_rfl) rfl (by rfl) (fun K' hK => ?_)
    go_simp
    go_wp2_with (go_at_call 23; refine (joined_c _ W.heap.size (.slice (some ⟨g, 0, none⟩) k cap) _ _ _ _ _ (by exact (Blk.new W.drew _ _).cell 0) (by exact (Blk.new W.drew _ _).cell 1) (hR1.out _ (by exact ((Mod.refl [] W).drew.alloc _))) (hR2.out _ (by exact ((Mod.refl [] W).drew.alloc _))) (by omega) (frCells_one _) (frCells_one _)).mono ?_; rintro e w1 ⟨v, L1, rfl, ho, hm, hf⟩; obtain ⟨a1, cp1, hv1, _⟩ := ho.val; subst hv1)
    have m := (((Mod.refl [] W).alloc _).drew).tr hm
    refine hK.out _ _ ⟨fun _ _ => ⟨m.cellSome hp1' (by simp), m.cellSome hp2' (by simp), m.cellSome hp' (by simp)⟩, ?_⟩
    clear hK
    clear K'
    have hfr := (m.blk (hW'.out.blk h1'.out (by simp)) (by simp)).free 0
    have hq := m.cellSome hp' (by simp)
    have ho' := hid ho
    have hm' := hid m
    have hq' := hid hm
    have hf' := hid hf
    clear ho hm hf m
    refine wpAnyK_one (i := 16) (by kernel_rfl) rfl (by rfl) (fun K' hK => ?_)
    go_simp
    refine hK.out _ _ ⟨fun _ _ => ⟨hm'.out.cellSome hp1' (by simp), hm'.out.cellSome hp2' (by simp), hq⟩, ?_⟩
    clear hK
    clear K'
    refine wpAnyK_one (i := 17) (by kernel_rfl) rfl (by rfl) (fun K' hK => ?_)
    go_simp
    refine hK.out _ _ ⟨fun _ _ => ⟨hm'.out.cellSome hp1' (by simp), hm'.out.cellSome hp2' (by simp), hq⟩, ?_⟩
    clear hK
    clear K'
    refine wpAnyK_one (i := 18) (by kernel_rfl) rfl (by rfl) (fun K' hK => ?_)
    go_simp
    refine hK.out _ _ ⟨fun h _ => absurd rfl h, ?_⟩
    clear hK
    clear K'
    refine wpAnyK_done (by kernel_rfl) ?_ _
    go_wp2
    go_ret
    exact upd_end h1'.out h3'.out h2'.out.lt hW'.out ((Mod.refl [] _).alloc _).drew hq'.out (by simp) ho'.out (fun j hj => Or.inr (hf'.out j hj)) (by simp only [dropL, List.length_append, List.length_take, List.length_drop]; omega) (frCells_append _ _) _

end Go.Proofs.Ytmcflfknaleljaa
