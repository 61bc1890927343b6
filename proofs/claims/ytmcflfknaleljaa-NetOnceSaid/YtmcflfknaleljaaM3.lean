/- The reference's bag: Drop, Take. -/
import Derived.Test.YtmcflfknaleljaaM2
namespace Go.Proofs.Ytmcflfknaleljaa
set_option linter.unusedVariables false
set_option linter.unusedSimpArgs false
set_option linter.unusedSectionVars false
open Go.RowKit

set_option maxRecDepth 100000 in
set_option maxHeartbeats 2000000 in
theorem rdrop_yes (T : TypeId) (w : World) (b k : Nat) (fs : List Fr) (L : List Nat) (h : NetAt T w b fs L) (hk : k < fs.length) (hlen : fs.length ≤ 400) :
    Calls Try.prog 13 #[.pointer (some ⟨b, 0, none⟩), .int .i64 k] w (NetSays T w b L (.int .i64 0) (dropL fs k)) := by
  have h0 := hid h
  have he : atE fs (k : Int) = 0 := by simp [atE, inb]; omega
  obtain ⟨v, R, h1, h2, rfl, h3⟩ := h
  obtain ⟨a, cap, hv, hn1, hn2, hrow⟩ := h2.val
  subst hv
  obtain ⟨g, rfl, rfl, _⟩ := hrow (by omega)
  have h1' := hid h1
  have h2' := hid h2
  have h3' := hid h3
  have hp := h1.cell 0
  simp at hp
  have hg := h2.lt g (by simp)
  have hl := h1.lt
  clear h1 h2 h3 hrow
  go_enter Try.func13, Try.ntmps13
  go_wp2_with fail
  refine (rat_c T _ b fs _ k h0.out).mono ?_
  rintro e w1 ⟨rfl, hm⟩
  rw [he]
  have hW := hm.alloc (.cells #[.int .i64 (atF fs k).dst, .string (atF fs k).s] 30)
  go_upto_region 5 with (fail)
  generalize w1.alloc (.cells #[.int .i64 (atF fs k).dst, .string (atF fs k).s] 30) = W at *
  clear hm
  have hp' := hW.cellSome hp (by simp)
  have hsW := hW.size
  have hW' := hid hW
  have hbW : b < W.heap.size := by omega
  have hgW : g < W.heap.size := by omega
  have hkc : k ≤ cap := by omega
  have hkl : k + 1 ≤ fs.length := by omega
  have hw1 : IntKind.i64.wrap ((k : Int) + 1) = (k : Int) + 1 := IntWalk.i64_in _ ⟨by omega, by omega⟩
  have hi1 : (0 : Int) ≤ (k : Int) := by omega
  have hi2 : (k : Int) ≤ (cap : Int) := by omega
  have hi3 : (k : Int) + 1 ≤ (fs.length : Int) := by omega
  have hi4 : (k : Int) + 1 ≤ (cap : Int) := by omega
  have hi5 : (0 : Int) ≤ (k : Int) + 1 := by omega
  clear hW hp
  have hR1 : Hid (Rdl W 2 (.slice (some ⟨g, 0, none⟩) k cap) k (frCells (fs.take k))) := (take_rdl h2'.out (by omega)).mod hW'.out (by simp)
  have hV : Hid (∀ X, Mod [] W X → X.cell? ⟨b, 0, none⟩ = some (.slice (some ⟨g, 0, none⟩) fs.length cap) ∧ X.frozen? ⟨b, 0, none⟩ = false ∧ b < X.heap.size) := by
    intro X m
    have := m.blk (hW'.out.blk h1'.out (by simp)) (by simp)
    exact ⟨this.cell 0, this.free 0, this.lt⟩
  rcases Nat.lt_or_ge (k + 1) cap with hcp | hcp
  case' inl =>
    have hne : ¬ cap = k + 1 := by omega
    have hR2 : Hid (∀ X, Mod [] W X → Rdl X 2 (.slice (some ⟨g, (k + 1) * 2, none⟩) (fs.length - (k + 1)) (cap - (k + 1))) (fs.length - (k + 1)) (frCells (fs.drop (k + 1)))) := fun X hX => (drop_rdl h2'.out hkl).mod (hW'.out.tr hX) (by simp)
  case' inr =>
    have hE : k + 1 = cap := by omega
    have hR2 : Hid (∀ X, Mod [] W X → Rdl X 2 (.slice (some ⟨g, 0, none⟩) 0 0) 0 (frCells (fs.drop (k + 1)))) := fun X hX => empty_rdl (by omega)
  all_goals
    go_wp2_with (first
      | (at_builtin; refine wpList_append_rdl rfl (.tmp 17) (.tmp 23) 26 30 rfl Try.underlying26 elem_frame rfl (by decide) rfl (Own.nil _ _ _) rfl hR1.out (frCells_one _) (by omega) (by omega) ?_; intro v' w' L' g1 g2 g3; simp only [Nat.zero_add, List.nil_append] at g1; obtain ⟨p1, p2, p3⟩ := hV.out w' g2.out)
      | (at_builtin; refine wpList_append_rdl rfl (.tmp 26) (.tmp 33) 26 30 rfl Try.underlying26 elem_frame rfl (by decide) rfl g1.out rfl (hR2.out _ g2.out) (frCells_one _) (by omega) (by omega) ?_; intro v2 w2 L2 k1 k2 k3; (try simp only [Nat.add_zero] at k1); obtain ⟨a2, cp2, hv2, _⟩ := k1.out.val; subst hv2; have mm : Mod [] W w2 := (g2.out.trans k2.out (m := []) (by simp) (by intro x hx hlt; rcases g3.out x hx with h | h; (exact h); omega)); obtain ⟨p4, p5, p6⟩ := hV.out w2 mm; have mm' := hid mm; clear mm))
    go_wp2
    go_ret
    refine upd_end h1'.out h3'.out h2'.out.lt hW'.out (Mod.refl _ _) mm'.out (by simp) k1.out (fun j hj => ?_) ?_ ?_ _
    · rcases k3.out j hj with h | h
      · rcases g3.out j h with h | h
        · cases h
        · exact Or.inr h
      · exact Or.inr (by have := g2.out.size; omega)
    · simp [dropL]; omega
    · simp [dropL, frCells_append]

set_option maxRecDepth 100000 in
set_option maxHeartbeats 1000000 in
theorem rdrop_out (T : TypeId) (w : World) (b : Nat) (fs : List Fr) (L : List Nat) (i : Int) (h : NetAt T w b fs L) (hb : ¬ inb fs i) :
    Calls Try.prog 13 #[.pointer (some ⟨b, 0, none⟩), .int .i64 i] w (NetSays T w b L (.int .i64 5) fs) := by
  have he : atE fs i = 5 := by simp [atE, hb]
  have h' := hid h
  clear h
  go_enter Try.func13, Try.ntmps13
  go_wp2_with fail
  refine (rat_c T _ b fs _ i h'.out).mono ?_
  rintro e w1 ⟨rfl, hm⟩
  rw [he]
  have hm' := hid hm
  clear hm
  go_wp2
  go_ret
  exact NetSays.same h'.out (hm'.out.alloc _)

theorem rdrop_c (T : TypeId) (w : World) (b : Nat) (fs : List Fr) (L : List Nat) (i : Int) (h : NetAt T w b fs L) (hl : fs.length ≤ 400) :
    Calls Try.prog 13 #[.pointer (some ⟨b, 0, none⟩), .int .i64 i] w (NetSays T w b L (.int .i64 (atE fs i)) (dropF fs i)) := by
  by_cases hb : inb fs i
  · obtain ⟨k, rfl, hk, hg⟩ := inb_get hb
    have he : atE fs k = 0 := by simp [atE, hb]
    have hd : dropF fs k = dropL fs k := by simp [dropF, hb]
    rw [he, hd]
    exact rdrop_yes T w b k fs L h hk hl
  · have he : atE fs i = 5 := by simp [atE, hb]
    have hd : dropF fs i = fs := by simp [dropF, hb]
    rw [he, hd]
    exact rdrop_out T w b fs L i h hb

set_option maxRecDepth 100000 in
set_option maxHeartbeats 1000000 in
theorem rtake_c (T : TypeId) (w : World) (b : Nat) (fs : List Fr) (L : List Nat) (i : Int) (h : NetAt T w b fs L) (hl : fs.length ≤ 400) :
    Calls Try.prog 9 #[.pointer (some ⟨b, 0, none⟩), .int .i64 i] w (TakeSays T w b L fs i) := by
  have h' := hid h
  have hlt := hid h.lt
  clear h
  go_enter Try.func9, Try.ntmps9
  go_wp2_with fail
  refine (rat_c T _ b fs L i (h'.out.mod ((Mod.refl [] w).alloc _) (by simp))).mono ?_
  rintro e w1 ⟨rfl, hm⟩
  have q0 := hm.blk (Blk.new w #[.int .i64 0, .string ⟨#[]⟩] 30) (by simp)
  have m1 := hid (((Mod.refl [] w).alloc (.cells #[.int .i64 0, .string ⟨#[]⟩] 30)).tr hm)
  have hl1 := q0.lt
  have Q0 := hid q0
  clear q0 hm
  go_wp2_with fail
  refine (rdrop_c T _ b fs L i (h'.out.mod (m1.out.alloc _) (by simp)) hl).mono ?_
  rintro e w2 ⟨rfl, L', hn, hm, hf⟩
  have hnq : w.heap.size ∉ L := fun h => by have := hlt.out _ h; omega
  have hnq1 : w1.heap.size ∉ L := fun h => by have := hlt.out _ h; omega
  have q0 := hm.blk (Q0.out.alloc _) hnq
  have q1 := hm.blk (Blk.new w1 #[.int .i64 (atF fs i).dst, .string (atF fs i).s] 30) hnq1
  have d0 := q0.cell 0
  have d1 := q0.cell 1
  have g0 := q0.free 0
  have g1 := q0.free 1
  have e0 := q1.cell 0
  have e1 := q1.cell 1
  simp at d0 d1 e0 e1
  have r0 := q0.lt
  have r1 := q1.lt
  have Q2 := hid q0
  have hm' := hid (m1.out.alloc (.cells #[.int .i64 (atF fs i).dst, .string (atF fs i).s] 30) |>.trans hm (m := L) (by simp) (by intro x hx _; exact hx))
  have hn' := hid hn
  have hf' := hid hf
  have hs1 := hid m1.out.size
  have hnq' := hid hnq
  clear q0 q1 hm hn hf hnq hnq1
  go_wp2
  refine bodyPost_ret (v := .tuple #[.agg #[.int .i64 (atF fs i).dst, .string (atF fs i).s], .int .i64 (atE fs i)]) (by simp [results, Try.results9, go_sem, d0, d1, g0, g1, r0]) rfl ?_
  have hnl : w.heap.size ∉ L' := by
    intro h
    rcases hf'.out _ h with h | h
    · exact hnq'.out h
    · have := hs1.out
      simp at h
      omega
  refine ⟨rfl, L', hn'.out.mod (M := [w.heap.size]) (((Mod.refl _ _).setCell (by simp) _).setCell (by simp) _) (by intro k hk; simp; rintro rfl; exact hnl hk), ?_, ?_⟩
  · exact (hm'.out.setCell (by simp) _).setCell (by simp) _
  · intro k hk
    rcases hf'.out k hk with h | h
    · exact Or.inl h
    · have := hs1.out
      simp at h
      exact Or.inr (by omega)

end Go.Proofs.Ytmcflfknaleljaa
