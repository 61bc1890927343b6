/- The bag: Drop. -/
import Derived.Test.YtmcflfknaleljaaN4
import Derived.Test.YtmcflfknaleljaaN2
namespace Go.Proofs.Ytmcflfknaleljaa
set_option linter.unusedVariables false
set_option linter.unusedSimpArgs false
set_option linter.unusedSectionVars false
open Go.RowKit

theorem NetSays.tr {T : TypeId} {w0 w : World} {b : Nat} {fs : List Fr} {L : List Nat} {r : Value} {e : Ending} {w' : World} (hm : Mod [] w0 w) (h : NetSays T w b L r fs e w') : NetSays T w0 b L r fs e w' := by
  obtain ⟨rfl, L', h1, h2, h3⟩ := h
  refine ⟨rfl, L', h1, (hm.trans h2 (m := L) (by simp) (by intro x hx _; exact hx)), fun k hk => ?_⟩
  have := hm.size
  rcases h3 k hk with h | h
  · exact Or.inl h
  · exact Or.inr (by omega)

set_option maxRecDepth 100000 in
set_option maxHeartbeats 1000000 in
theorem at_drop (T T1 T2 : TypeId) (w : World) (b c1 c2 k : Nat) (fs : List Fr) (L : List Nat) (h : NetAt T w b fs L) (hk : k < fs.length) (hc1 : Blk w c1 #[.pointer (some ⟨b, 0, none⟩)] T1) (hc2 : Blk w c2 #[.int .i64 k] T2) (hlen : fs.length ≤ 400) (hd1 : c1 ∉ L) (hd2 : c2 ∉ L) (a : Option Addr) (cap : Nat) (hv : w.cell? ⟨b, 0, none⟩ = some (.slice a fs.length cap)) :
    Calls Try.prog 21 #[.slice a fs.length cap, .int .i64 k, .func (.func 22) #[] #[.pointer (some ⟨c1, 0, none⟩), .pointer (some ⟨c2, 0, none⟩)]] w (NetSays T w b L (.int .i64 0) (dropL fs k)) := by
  have h' := hid h
  obtain ⟨v, R, h1, h2, rfl, h3⟩ := h
  have hn := h2.len
  obtain ⟨a', cap', hv', hn1, hn2, _⟩ := h2.val
  have hc := h1.cell 0
  simp [hv'] at hc
  rw [hv] at hc
  simp at hc
  obtain ⟨rfl, rfl⟩ := hc
  obtain ⟨f, hf⟩ : ∃ f, fs[k]? = some f := ⟨fs[k], by simp [hk]⟩
  obtain ⟨g, rfl, rfl, hc0, hc1'⟩ := row_at h2 hv' hf
  have H1 := hid hc1
  have H2 := hid hc2
  clear hc1 hc2 h1 h2 h3 hv' hf hv
  have hkc : k < cap := by omega
  go_enter Try.func21, Try.ntmps21
  go_wp2_with fail
  refine (dropf_c T T1 T2 _ b c1 c2 k fs _ f h'.out hk H1.out H2.out hlen hd1 hd2).mono ?_
  rintro e w1 ⟨rfl, hb⟩
  have hb' := hid hb
  clear hb
  go_wp2
  go_ret
  exact ⟨rfl, hb'.out⟩

set_option maxRecDepth 100000 in
set_option maxHeartbeats 1000000 in
theorem drop_yes (T : TypeId) (w : World) (b k : Nat) (fs : List Fr) (L : List Nat) (h : NetAt T w b fs L) (hk : k < fs.length) (hlen : fs.length ≤ 400) :
    Calls Try.prog 12 #[.pointer (some ⟨b, 0, none⟩), .int .i64 k] w (NetSays T w b L (.int .i64 0) (dropL fs k)) := by
  have h' := hid h
  obtain ⟨v, R, h1, h2, rfl, h3⟩ := h
  obtain ⟨a, cap, rfl, hn1, hn2, _⟩ := h2.val
  have hl := h1.lt
  have hp := h1.cell 0
  simp at hp
  have hlt := hid h'.out.lt
  clear h1 h2 h3
  go_enter Try.func12, Try.ntmps12
  go_upto_region 3 with (fail)
  have m2 := ((Mod.refl [] w).alloc (.cells #[.pointer (some ⟨b, 0, none⟩)] 23)).alloc (.cells #[.int .i64 k] 3)
  have q1 := (Blk.new w #[.pointer (some ⟨b, 0, none⟩)] 23).alloc (.cells #[.int .i64 k] 3)
  have q2 := Blk.new (w.alloc (.cells #[.pointer (some ⟨b, 0, none⟩)] 23)) #[.int .i64 k] 3
  have hz : (w.alloc (.cells #[.pointer (some ⟨b, 0, none⟩)] 23)).heap.size = w.heap.size + 1 := by simp
  rw [hz] at q2
  clear hz
  generalize (w.alloc (.cells #[.pointer (some ⟨b, 0, none⟩)] 23)).alloc (.cells #[.int .i64 k] 3) = W at *
  generalize hq : w.heap.size = q at *
  have M2 := hid m2.drew
  have Q1 := hid q1.drew
  have Q2 := hid q2.drew
  have hS := And.intro (q1.drew.cell 0) (And.intro (q2.drew.cell 0) (m2.drew.cellSome hp (by simp)))
  simp at hS
  have Hq := hid hq
  clear m2 q1 q2 hq
  refine wp_region_K 6 (fun w' => w'.cell? ⟨q, 0, none⟩ = some (.pointer (some ⟨b, 0, none⟩)) ∧ w'.cell? ⟨q + 1, 0, none⟩ = some (.int .i64 k) ∧ w'.cell? ⟨b, 0, none⟩ = some (.slice a fs.length cap)) (by rfl) ?_
  refine wpAnyK_take [6, 3, 2, 1, 0] (i := 0) (v := ?_) rfl (by kernel_rfl) (by kernel_rfl) (by kernel_rfl) (by kernel_rfl) (by rfl) (fun _ _ _ h => h) (Or.inl ⟨by rfl, ?_⟩) hS ?_
  rotate_left
  · intro w hSw; obtain ⟨y1, y2, y3⟩ := hSw; go_simp; try with_reducible rfl
  simp only [Act.put, List.setIfInBounds_toArray, List.set_cons_zero, List.set_cons_succ]
  refine wpAnyK_take [6, 3, 2, 1] (i := 1) (v := ?_) rfl (by kernel_rfl) (by kernel_rfl) (by kernel_rfl) (by kernel_rfl) (by rfl) (fun _ _ _ h => h) (Or.inl ⟨by rfl, ?_⟩) hS ?_
  rotate_left
  · intro w hSw; obtain ⟨y1, y2, y3⟩ := hSw; go_simp; try with_reducible rfl
  simp only [Act.put, List.setIfInBounds_toArray, List.set_cons_zero, List.set_cons_succ]
  refine wpAnyK_take [6, 3, 2] (i := 2) (v := ?_) rfl (by kernel_rfl) (by kernel_rfl) (by kernel_rfl) (by kernel_rfl) (by rfl) (fun _ _ _ h => h) (Or.inl ⟨by rfl, ?_⟩) hS ?_
  rotate_left
  · intro w hSw; obtain ⟨y1, y2, y3⟩ := hSw; go_simp; try with_reducible rfl
  simp only [Act.put, List.setIfInBounds_toArray, List.set_cons_zero, List.set_cons_succ]
  refine wpAnyK_take [6, 3] (i := 3) (v := ?_) rfl (by kernel_rfl) (by kernel_rfl) (by kernel_rfl) (by kernel_rfl) (by rfl) (fun _ _ _ h => h) (Or.inl ⟨by rfl, ?_⟩) hS ?_
  rotate_left
  · intro w hSw; obtain ⟨y1, y2, y3⟩ := hSw; go_simp; try with_reducible rfl
  simp only [Act.put, List.setIfInBounds_toArray, List.set_cons_zero, List.set_cons_succ]
  refine wpAnyK_take [6, 4] (i := 4) (v := ?_) rfl (by kernel_rfl) (by kernel_rfl) (by kernel_rfl) (by kernel_rfl) (by rfl) (fun _ _ _ h => h) (Or.inl ⟨by rfl, ?_⟩) hS ?_
  rotate_left
  · intro w hSw; obtain ⟨y1, y2, y3⟩ := hSw; go_simp; try with_reducible rfl
  simp only [Act.put, List.setIfInBounds_toArray, List.set_cons_zero, List.set_cons_succ]
  refine wpAnyK_one (i := 5) (by kernel_rfl) rfl (by rfl) (fun K' hK => ?_)
  go_simp
  refine hK.out _ _ ⟨fun _ _ => hS, ?_⟩
  clear hK
  clear K'
  refine wpAnyK_one (i := 6) (by kernel_rfl) rfl (by rfl) (fun K' hK => ?_)
  go_simp
  go_wp2_with fail
  refine (at_drop T 23 3 _ b q (q + 1) k fs _ (h'.out.mod M2.out (by simp)) hk Q1.out Q2.out hlen (fun h => by have := hlt.out _ h; have := Hq.out; omega) (fun h => by have := hlt.out _ h; have := Hq.out; omega) a cap hS.2.2).mono ?_
  rintro e w1 ⟨rfl, hb⟩
  have hb' := hid hb
  clear hb
  go_wp2
  refine hK.out _ _ ⟨fun h _ => absurd rfl h, ?_⟩
  clear hK
  clear K'
  refine wpAnyK_one (i := 7) (by kernel_rfl) rfl (by rfl) (fun K' hK => ?_)
  go_simp
  refine hK.out _ _ ⟨fun _ h => (by simp at h), ?_⟩
  clear hK
  clear K'
  refine wpAnyK_done (by kernel_rfl) ?_ _
  go_wp2
  go_ret
  exact NetSays.tr M2.out ⟨rfl, hb'.out⟩

set_option maxRecDepth 100000 in
set_option maxHeartbeats 1000000 in
theorem drop_out (T : TypeId) (w : World) (b : Nat) (fs : List Fr) (L : List Nat) (i : Int) (h : NetAt T w b fs L) (hi : i < 0 ∨ (fs.length : Int) ≤ i) (hi1 : -9223372036854775808 ≤ i) (hi2 : i ≤ 9223372036854775807) :
    Calls Try.prog 12 #[.pointer (some ⟨b, 0, none⟩), .int .i64 i] w (NetSays T w b L (.int .i64 5) fs) := by
  have h' := hid h
  obtain ⟨v, R, h1, h2, rfl, h3⟩ := h
  have hn := h2.len
  obtain ⟨a, cap, rfl, hn1, hn2, _⟩ := h2.val
  have hl := h1.lt
  have hp := h1.cell 0
  simp at hp
  have hi' := hid hi
  clear h1 h2 h3 hi
  go_enter Try.func12, Try.ntmps12
  go_upto_region 3 with (fail)
  have m2 := ((Mod.refl [] w).alloc (.cells #[.pointer (some ⟨b, 0, none⟩)] 23)).alloc (.cells #[.int .i64 i] 3)
  have q1 := (Blk.new w #[.pointer (some ⟨b, 0, none⟩)] 23).alloc (.cells #[.int .i64 i] 3)
  have q2 := Blk.new (w.alloc (.cells #[.pointer (some ⟨b, 0, none⟩)] 23)) #[.int .i64 i] 3
  have hz : (w.alloc (.cells #[.pointer (some ⟨b, 0, none⟩)] 23)).heap.size = w.heap.size + 1 := by simp
  rw [hz] at q2
  clear hz
  generalize (w.alloc (.cells #[.pointer (some ⟨b, 0, none⟩)] 23)).alloc (.cells #[.int .i64 i] 3) = W at *
  generalize hq : w.heap.size = q at *
  have M2 := hid m2.drew
  have hS := And.intro (q1.drew.cell 0) (And.intro (q2.drew.cell 0) (m2.drew.cellSome hp (by simp)))
  simp at hS
  clear m2 q1 q2 hq
  refine wp_region_K 6 (fun w' => w'.cell? ⟨q, 0, none⟩ = some (.pointer (some ⟨b, 0, none⟩)) ∧ w'.cell? ⟨q + 1, 0, none⟩ = some (.int .i64 i) ∧ w'.cell? ⟨b, 0, none⟩ = some (.slice a fs.length cap)) (by rfl) ?_
  refine wpAnyK_take [6, 3, 2, 1, 0] (i := 0) (v := ?_) rfl (by kernel_rfl) (by kernel_rfl) (by kernel_rfl) (by kernel_rfl) (by rfl) (fun _ _ _ h => h) (Or.inl ⟨by rfl, ?_⟩) hS ?_
  rotate_left
  · intro w hSw; obtain ⟨y1, y2, y3⟩ := hSw; go_simp; try with_reducible rfl
  simp only [Act.put, List.setIfInBounds_toArray, List.set_cons_zero, List.set_cons_succ]
  refine wpAnyK_take [6, 3, 2, 1] (i := 1) (v := ?_) rfl (by kernel_rfl) (by kernel_rfl) (by kernel_rfl) (by kernel_rfl) (by rfl) (fun _ _ _ h => h) (Or.inl ⟨by rfl, ?_⟩) hS ?_
  rotate_left
  · intro w hSw; obtain ⟨y1, y2, y3⟩ := hSw; go_simp; try with_reducible rfl
  simp only [Act.put, List.setIfInBounds_toArray, List.set_cons_zero, List.set_cons_succ]
  refine wpAnyK_take [6, 3, 2] (i := 2) (v := ?_) rfl (by kernel_rfl) (by kernel_rfl) (by kernel_rfl) (by kernel_rfl) (by rfl) (fun _ _ _ h => h) (Or.inl ⟨by rfl, ?_⟩) hS ?_
  rotate_left
  · intro w hSw; obtain ⟨y1, y2, y3⟩ := hSw; go_simp; try with_reducible rfl
  simp only [Act.put, List.setIfInBounds_toArray, List.set_cons_zero, List.set_cons_succ]
  refine wpAnyK_take [6, 3] (i := 3) (v := ?_) rfl (by kernel_rfl) (by kernel_rfl) (by kernel_rfl) (by kernel_rfl) (by rfl) (fun _ _ _ h => h) (Or.inl ⟨by rfl, ?_⟩) hS ?_
  rotate_left
  · intro w hSw; obtain ⟨y1, y2, y3⟩ := hSw; go_simp; try with_reducible rfl
  simp only [Act.put, List.setIfInBounds_toArray, List.set_cons_zero, List.set_cons_succ]
  refine wpAnyK_take [6, 4] (i := 4) (v := ?_) rfl (by kernel_rfl) (by kernel_rfl) (by kernel_rfl) (by kernel_rfl) (by rfl) (fun _ _ _ h => h) (Or.inl ⟨by rfl, ?_⟩) hS ?_
  rotate_left
  · intro w hSw; obtain ⟨y1, y2, y3⟩ := hSw; go_simp; try with_reducible rfl
  simp only [Act.put, List.setIfInBounds_toArray, List.set_cons_zero, List.set_cons_succ]
  refine wpAnyK_one (i := 5) (by kernel_rfl) rfl (by rfl) (fun K' hK => ?_)
  go_simp
  refine hK.out _ _ ⟨fun _ _ => hS, ?_⟩
  clear hK
  clear K'
  refine wpAnyK_one (i := 6) (by kernel_rfl) rfl (by rfl) (fun K' hK => ?_)
  go_simp
  go_wp2_with fail
  refine (at_no _ i a fs.length cap _ hi'.out hi1 hi2 hn).mono ?_
  rintro e w1 ⟨rfl, rfl⟩
  go_wp2
  refine hK.out _ _ ⟨fun h _ => absurd rfl h, ?_⟩
  clear hK
  clear K'
  refine wpAnyK_one (i := 7) (by kernel_rfl) rfl (by rfl) (fun K' hK => ?_)
  go_simp
  refine hK.out _ _ ⟨fun _ h => (by simp at h), ?_⟩
  clear hK
  clear K'
  refine wpAnyK_done (by kernel_rfl) ?_ _
  go_wp2
  go_ret
  exact NetSays.same h'.out M2.out

end Go.Proofs.Ytmcflfknaleljaa
