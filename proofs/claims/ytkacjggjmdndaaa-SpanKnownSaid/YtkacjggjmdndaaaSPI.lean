/- Max, New, Len. -/
import Derived.Test.YtkacjggjmdndaaaSPH
namespace Go.Proofs.Ytkacjggjmdndaaa
set_option linter.unusedVariables false
set_option linter.unusedSimpArgs false
set_option linter.unusedSectionVars false
open Go.RowKit Go.Shelf
attribute [local go_sem] Oper.semAt_some

theorem Blk.grown {w w' : World} {row : Option Nat} {b : Nat} {c : Array Value} {T : TypeId} (h : Blk w b c T) (hg : w.grownBy w' row) (hr : ∀ r, row = some r → ∃ o : Obj, w.heap[r]? = some o ∧ o.isCells = false) : Blk w' b c T := by
  have hlt := h.lt
  unfold Blk at h ⊢
  refine (hg.block b hlt (fun e => ?_)).trans h
  obtain ⟨o, ho, hc⟩ := hr b e.symm
  rw [h] at ho
  cases ho
  cases hc
theorem Mod.keeps {l : List Nat} {w w' : World} {B : Nat} (h : Mod l w w') (hl : ∀ k ∈ l, ∃ c T, Blk w k c T) : KeepsFrom B w w' :=
  ⟨h.size, fun k o _ hk ho => by
    refine (h.block k (Array.getElem?_eq_some_iff.1 hk).1 (fun hm => ?_)).trans hk
    obtain ⟨c, T, hb⟩ := hl k hm
    unfold Blk at hb
    rw [hb] at hk
    cases hk
    cases ho⟩

/-- All blocks ahead of N but B are as they were. -/
def Kx (N B : Nat) (W W' : World) : Prop := W.heap.size ≤ W'.heap.size ∧ ∀ k, k < N → k < W.heap.size → k ≠ B → W'.heap[k]? = W.heap[k]?
theorem Kx.refl (N B : Nat) (A : World) : Kx N B A A := ⟨Nat.le_refl _, fun _ _ _ _ => rfl⟩
theorem Kx.trans {N B : Nat} {A C D : World} (h : Kx N B A C) (k : Kx N B C D) : Kx N B A D :=
  ⟨Nat.le_trans h.1 k.1, fun i h1 h2 h3 => (k.2 i h1 (Nat.lt_of_lt_of_le h2 h.1) h3).trans (h.2 i h1 h2 h3)⟩
theorem Kx.alloc (N B : Nat) (A : World) (o : Obj) : Kx N B A (A.alloc o) := ⟨by simp, fun k _ hk _ => Below.heap_alloc _ _ _ hk⟩
theorem Kx.putObj (N B : Nat) (W : World) (l : Nat) (o' : Obj) (h : N ≤ l) : Kx N B W (W.putObj l o') :=
  ⟨by simp [World.putObj], fun k h1 _ _ => by show (W.heap.setIfInBounds l o')[k]? = _; rw [Array.getElem?_setIfInBounds_ne (by omega)]⟩
theorem Kx.of_mod {N B : Nat} {A C : World} (h : Mod [B] A C) : Kx N B A C := ⟨h.size, fun k _ h2 h3 => h.block k h2 (by simpa using h3)⟩
theorem Kx.blk {N B : Nat} {w w' : World} {b : Nat} {c : Array Value} {T : TypeId} (h : Kx N B w w') (hb : Blk w b c T) (hN : b < N) (hn : b ≠ B) : Blk w' b c T := by
  have := hb.lt
  unfold Blk at hb ⊢
  rw [h.2 b hN this hn]; exact hb

set_option maxRecDepth 100000 in
set_option maxHeartbeats 4000000 in
theorem max_c (w : World) (b : Nat) (most : Int) (l : List Rg) (key : ByteArray) (L : List Nat) (h : spanR b most l w L) :
    Calls Try.prog 13 #[.pointer (some ⟨b, 0, none⟩), .string key] w fun e w' => e = .returned (.int .u64 (maxR key l)) ∧ Mod [] w w' := by
  obtain ⟨v, M, hb, ho, hbM, rfl⟩ := h
  obtain ⟨a, cap, rfl, hnc, hcap, hg⟩ := ho.val
  have HO := hid ho
  have HBB := hid hb
  have hMl := hid ho.lt
  have hbl := hb.lt
  obtain ⟨mx, hmx⟩ : ∃ mx, maxR key l = mx := ⟨_, rfl⟩
  have hfold := hid ((gotR_max key l).trans hmx)
  rw [hmx]
  clear ho hb hmx
  refine (callsIn_wide (n := 3)).1 ?_
  refine callsIn_of_wp_marks Try.func13 rfl trivial ?_ rfl
  simp only [Try.ntmps13, List.size_toArray, List.length_cons, List.length_nil, Nat.reduceAdd, Nat.reduceSub, Array.replicate_succ, Array.replicate_zero, List.push_toArray, List.append_toArray, List.nil_append, List.cons_append]
  gi_wp2_with (refine ⟨trivial, ?_⟩; gi_at_call 20; refine (of_in Fence.wide 2 trivial rfl _ _ _).mono ?_; rintro e w' ⟨rfl, rfl⟩)
  have hb1 := ((Blk.new w #[.int .u64 0] 30).alloc (.cells #[.pointer (some ⟨b, 0, none⟩)] 24)).alloc (.cells #[.string key] 9)
  have hb2 := (Blk.new (w.alloc (.cells #[.int .u64 0] 30)) #[.pointer (some ⟨b, 0, none⟩)] 24).alloc (.cells #[.string key] 9)
  have hb3 := Blk.new ((w.alloc (.cells #[.int .u64 0] 30)).alloc (.cells #[.pointer (some ⟨b, 0, none⟩)] 24)) #[.string key] 9
  have hm0 := (((Mod.refl [] w).alloc (.cells #[.int .u64 0] 30)).alloc (.cells #[.pointer (some ⟨b, 0, none⟩)] 24)).alloc (.cells #[.string key] 9)
  simp only [World.size_alloc] at hb2 hb3
  have hsz : (((w.alloc (.cells #[.int .u64 0] 30)).alloc (.cells #[.pointer (some ⟨b, 0, none⟩)] 24)).alloc (.cells #[.string key] 9)).heap.size = w.heap.size + 3 := by simp
  generalize (((w.alloc (.cells #[.int .u64 0] 30)).alloc (.cells #[.pointer (some ⟨b, 0, none⟩)] 24)).alloc (.cells #[.string key] 9)) = W0 at *
  have hbW := hm0.blk HBB.out (by simp)
  generalize hBw : w.heap.size = B at *
  have HBw := hid hBw
  clear hBw
  have hf : ∀ W', Kx W0.heap.size B W0 W' → OfAt b (B + 1) (B + 1 + 1) a cap l key W' := fun W' hK => by
    refine ⟨(hK.blk hb2 (by omega) (by omega)).cell 0, (hK.blk hb3 (by omega) (by omega)).cell 0, (hK.blk hbW (by omega) (by omega)).cell 1, ?_⟩
    refine Own.lx rg_lays (L := M) (E := 48) ?_
    have ho := HO.out.mod hm0 (by simp)
    refine ⟨ho.1, ?_⟩
    rcases ho.2 with h0 | ⟨g, cp, cur, h1, h2, hbg, h3⟩
    · exact Or.inl h0
    · have := hMl.out g (by rw [h2]; simp)
      exact Or.inr ⟨g, cp, cur, h1, h2, hK.blk hbg (by omega) (by omega), h3⟩
  have Hf := hid hf
  have HM0 := hid hm0
  have HB1 := hid hb1
  clear hf hm0 hb1 hb2 hb3 hbW
  refine wpIn_rangeFunc_ownH rfl (by omega) (gf := 26) (lb := #[.pointer (some ⟨B + 1, 0, none⟩), .pointer (some ⟨B + 1 + 1, 0, none⟩)]) rfl trivial (enters_of Try.func26 (by kernel_rfl) rfl)
    (of_stops Fence.wide (3 - 1) trivial rfl (by omega) (B + 1) (B + 1 + 1) b a cap l key (Kx W0.heap.size B) (Kx.refl _ _) Kx.trans (Kx.alloc _ _) W0 (fun W h => ⟨h.size, fun k h1 h2 h3 => h.block k h1⟩) Hf.out) Kx.trans (fun W l o o' h1 _ _ _ => Kx.putObj _ _ W l o' h1) (Below.refl _ _) (fun _ => rfl)
    (fun pre W => Blk W B #[.int .u64 ((pre.foldl max 0 : Nat) : Int)] 30 ∧ Mod [B] W0 W)
    (fun c pre W => False)
    ?own ?ownx ⟨HB1.out, Mod.refl _ _⟩
    (fun x a' W => a' = { tmps := #[.pointer (some ⟨b, 0, none⟩), .string key, undef, undef, .int .u64 0, .pointer (some ⟨B, 0, none⟩), .int .u64 (x : Int), .pointer (some ⟨b, 0, none⟩), .bool true, .pointer (some ⟨b, 0, none⟩), .string key, .func (.func 26) #[] #[.pointer (some ⟨B + 1, 0, none⟩), .pointer (some ⟨B + 1 + 1, 0, none⟩)], .int .u64 (x : Int), undef, undef, undef, undef], defers := [] })
    ?ax ?assign ?body ?done ?stop
  case own =>
    intro pre X Y row hs hg hr
    exact ⟨hs.1.grown hg (fun r e => (hr r e).2), hs.2.grown hg (fun r e => Or.inr (by have := (hr r e).1; omega))⟩
  case ownx =>
    intro c pre X Y row hs hg hr
    exact hs
  case ax =>
    intro x a' _ X Y row h _ _
    exact h
  case assign =>
    rintro u pre x W K hi hK
    have hi2 := hid hi
    clear hi
    gi_wp2
    exact hK _ _ ((Mod.refl [] W).keeps (by simp)) (Kx.refl _ _ _) hi2.out rfl
  case body =>
    rintro u pre x a' W hu _ ⟨hpre, hM⟩ rfl hlt
    have q1 : W.cell? ⟨B, 0, none⟩ = some (.int .u64 ((pre.foldl max 0 : Nat) : Int)) := hpre.cell 0
    have q2 := hpre.free 0
    have hBl := hpre.lt
    have Hpre := hid hpre
    have HM := hid hM
    have hmx : Hid (max ((pre.foldl max 0 : Nat) : Int) (x : Int) = (((pre ++ [x]).foldl max 0 : Nat) : Int)) := by show _ = _; rw [List.foldl_append]; simp; omega
    clear hpre hM hlt
    generalize pre.foldl max 0 = m at *
    gi_wp2
    have hm5 := (Mod.refl [B] W).setCell (p := ⟨B, 0, none⟩) (by simp) (.int .u64 (max (m : Int) (x : Int)))
    refine ⟨hm5.keeps (by intro k hk; simp at hk; subst hk; exact ⟨_, _, Hpre.out⟩), Kx.of_mod hm5, ?_, HM.out.tr hm5⟩
    rw [← hmx.out]
    exact Hpre.out.set 0 _
  case done =>
    rintro D ys W hD rfl ⟨hne, hM⟩ hK
    rw [hfold.out] at hne
    have q1 : W.cell? ⟨B, 0, none⟩ = some (.int .u64 (mx : Int)) := hne.cell 0
    have HM := hid hM
    have HK := hid hK
    clear hM hK hne
    gi_wp2
    refine ⟨by simp, .inl ⟨_, _, rfl, run_takeDeferred HK.out, ?_⟩⟩
    have hg := grownBy_putObj' W D (.deferred none)
    have hb0 := HBw.out
    refine ⟨.int .u64 mx, ?_, rfl, ?_⟩
    · simp [results, Try.f13, go_sem]
    · exact (HM0.out.trans HM.out (m := []) (by simp) (by intro y hy hlt; simp at hy; omega)).grown hg (fun r e => by cases e; right; omega)
  case stop =>
    rintro D c pre W hD _ h
    exact h.elim

set_option maxRecDepth 100000 in
theorem max_nil (w : World) (key : ByteArray) : Calls Try.prog 13 #[.pointer none, .string key] w fun e w' => e = .returned (.int .u64 0) ∧ Mod [] w w' := by
  go_enter Try.func13, Try.ntmps13
  go_wp2
  go_ret
  exact ⟨rfl, (Mod.refl [] w).alloc _⟩

set_option maxRecDepth 100000 in
theorem len_c (w : World) (b : Nat) (most : Int) (l : List Rg) (L : List Nat) (h : spanR b most l w L) : Calls Try.prog 12 #[.pointer (some ⟨b, 0, none⟩)] w fun e w' => e = .returned (.int .i64 l.length) ∧ Mod [] w w' := by
  obtain ⟨v, M, hb, ho, hbM, rfl⟩ := h
  obtain ⟨a, cap, rfl, hnc, hcap, _⟩ := ho.val
  have c1 : w.cell? ⟨b, 1, none⟩ = some (.slice a l.length cap) := hb.cell 1
  have hbl := hb.lt
  go_enter Try.func12, Try.ntmps12
  go_wp2
  go_ret
  exact ⟨rfl, Mod.refl [] w⟩
set_option maxRecDepth 100000 in
theorem len_nil (w : World) : Calls Try.prog 12 #[.pointer none] w fun e w' => e = .returned (.int .i64 0) ∧ Mod [] w w' := by
  go_enter Try.func12, Try.ntmps12
  go_wp2
  go_ret
  exact ⟨rfl, Mod.refl [] w⟩
set_option maxRecDepth 100000 in
theorem new_no (w : World) (most : Int) (h : most < 1) : Calls Try.prog 6 #[.int .i64 most] w fun e w' => e = .returned (.pointer none) ∧ Mod [] w w' := by
  go_enter Try.func6, Try.ntmps6
  go_wp2
  go_ret
  exact ⟨rfl, Mod.refl [] w⟩
set_option maxRecDepth 100000 in
theorem new_c (w : World) (most : Int) (h : 1 ≤ most) : Calls Try.prog 6 #[.int .i64 most] w fun e w' => e = .returned (.pointer (some ⟨w.heap.size, 0, none⟩)) ∧ spanR w.heap.size most [] w' [w.heap.size] ∧ Mod [] w w' ∧ w'.heap.size = w.heap.size + 1 := by
  have h' : ¬ most < 1 := by omega
  go_enter Try.func6, Try.ntmps6
  go_wp2
  go_ret
  exact ⟨rfl, ⟨.slice none 0 0, [], Blk.new _ _ _, Own.nil _ _ _, by simp, rfl⟩, (Mod.refl [] w).alloc _, by simp⟩

end Go.Proofs.Ytkacjggjmdndaaa
