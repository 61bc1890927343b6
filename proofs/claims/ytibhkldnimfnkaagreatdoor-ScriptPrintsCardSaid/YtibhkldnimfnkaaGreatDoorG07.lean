/- Script: parts ZT ZU. -/
import Derived.Test.YtibhkldnimfnkaaGreatDoorG06

/- Script: the replacer is built, two. (Printed by mkZT.py.) -/
namespace Go.Proofs.YtibhkldnimfnkaaGreatDoor
section
set_option linter.unusedVariables false
set_option linter.unusedSimpArgs false
set_option linter.unusedSectionVars false
open Go.RowKit

theorem z_set (Z : Array Value) (hs : Z.size = 257) (v u : Value) (o : Nat) (ho : o < 256) : ((Z.setIfInBounds 256 v).setIfInBounds o u).size = 257 ∧ ((Z.setIfInBounds 256 v).setIfInBounds o u)[256]? = some v ∧
    ((Z.setIfInBounds 256 v).setIfInBounds o u)[o]? = some u ∧ ∀ i, i < 256 → i ≠ o → ((Z.setIfInBounds 256 v).setIfInBounds o u)[i]? = Z[i]? := by
  refine ⟨by simp [hs], ?_, ?_, fun i hi hne => ?_⟩
  · rw [Array.getElem?_setIfInBounds_ne (by omega), Array.getElem?_setIfInBounds_self_of_lt (by omega)]
  · rw [Array.getElem?_setIfInBounds_self_of_lt (by simp [hs]; omega)]
  · rw [Array.getElem?_setIfInBounds_ne (by omega), Array.getElem?_setIfInBounds_ne (by omega)]
theorem BytesAt.mod {l : List Nat} {W W' : World} {q : Nat} {s : ByteArray} (h : BytesAt W q s) (hm : Mod l W W') (hn : q ∉ l) : BytesAt W' q s := fun j hj => hm.cellSome (h j hj) hn
theorem bytes_size (W : World) (e : TypeId) (s : ByteArray) : (Lib.bytesWorld W e s).heap.size = W.heap.size + 1 := by
  unfold Lib.bytesWorld World.freeze
  rw [if_neg (by decide)]
  simp only [Array.size_modify]
  exact (by simp : (W.drew.alloc (.cells (Lib.bytesCells W e s) e)).heap.size = W.drew.heap.size + 1)
theorem zero_at (i : Nat) (h : i < 256) : Tryz.zeroCells247[i]? = some (.slice none 0 0) := by
  have e : Tryz.zeroCells247 = (Array.replicate 256 (.slice none 0 0)).push (.slice none 0 0) := by kernel_rfl
  rw [e, Array.getElem?_push_lt (by simpa using h)]
  simp
/-- What stands for a byte. -/
def RepAt (N : Nat) (W : World) (Z : Array Value) (o : Nat) (s : ByteArray) (bs : Nat) (L : List Nat) : Prop := ∃ q cap, Z[o]? = some (.slice (some ⟨q, 0, none⟩) 2 cap) ∧ BytesAt W q s ∧ N ≤ q ∧ q ≠ bs ∧ q ∉ L ∧ q < W.heap.size
/-- A replacer that was built. -/
def Bsr (N : Nat) (W : World) (bs : Nat) : Prop := ∃ Z V L, Blk W bs Z 247 ∧ Own W 9 1 V 3 [qn, qb, qq] L ∧ Z.size = 257 ∧ Z[256]? = some V ∧ N ≤ bs ∧ (∀ y ∈ L, N ≤ y) ∧
  (∀ i, i < 256 → i ≠ 10 → i ≠ 92 → i ≠ 34 → Z[i]? = some (.slice none 0 0)) ∧ RepAt N W Z 10 ⟨#[92, 110]⟩ bs L ∧ RepAt N W Z 92 ⟨#[92, 92]⟩ bs L ∧ RepAt N W Z 34 ⟨#[92, 34]⟩ bs L

set_option maxRecDepth 100000 in
set_option maxHeartbeats 3200000 in
theorem build_c (R g cap : Nat) (v0 v1 v2 v3 : Value) (w : World) (hB : Blk w R #[v0, v1, v2, v3, .slice (some ⟨g, 0, none⟩) 6 cap] rpT)
    (h0 : w.cell? ⟨g, 0, none⟩ = some qq) (h1 : w.cell? ⟨g, 1, none⟩ = some qqV) (h2 : w.cell? ⟨g, 2, none⟩ = some qb) (h3 : w.cell? ⟨g, 3, none⟩ = some qbV) (h4 : w.cell? ⟨g, 4, none⟩ = some qn) (h5 : w.cell? ⟨g, 5, none⟩ = some qnV) :
    Calls Tryz.prog 145 #[.pointer (some ⟨R, 0, none⟩)] w fun e w' => ∃ bs, e = .returned (.iface 248 (.pointer (some ⟨bs, 0, none⟩))) ∧ Mod [] w w' ∧ Bsr w.heap.size w' bs := by
  have c4 := hB.cell 4
  simp only [List.getElem?_toArray, List.getElem?_cons_zero, List.getElem?_cons_succ] at c4
  have hmk : ∀ W : World, (Instr.makeSlice 49 (.int .i64 0) (.int .i64 3)).run Tryz.prog W = .ok (.slice (some ⟨W.heap.size, 0, none⟩) 0 3) (W.alloc (.cells (madeCells #[.string ⟨#[]⟩] 3) 9)) := fun W => by
    have := run_make_room (P := Tryz.prog) 49 9 (.string ⟨#[]⟩) 16 Tryz.underlying49 (by kernel_rfl) rfl .i64 .i64 3 (by decide) (by decide) W
    exact this
  have hst := run_storeCells_new (P := Tryz.prog) (w.alloc (.cells (madeCells #[.string ⟨#[]⟩] 3) 9)) 247 Tryz.zeroCells247 (Tryz.zeroCells247.toList.set 256 (.slice (some ⟨w.heap.size, 0, none⟩) 0 3)).toArray (by kernel_rfl) (by kernel_rfl) (by kernel_rfl)
  rw [show (w.alloc (.cells (madeCells #[.string ⟨#[]⟩] 3) 9)).heap.size = w.heap.size + 1 by simp, List.toList_toArray] at hst
  have HB := hid hB
  clear hB
  go_enter Tryz.func145, Tryz.ntmps145
  go_wp2_with fail
  refine wp_loop_rounds 4 ?_
  rw [rounds_succ]
  go_wp2_with fail
  rw [rounds_succ]
  go_wp2_with fail
  rw [rounds_succ]
  go_wp2_with fail
  rw [rounds_succ]
  go_wp2_with fail
  obtain ⟨bs, hbs⟩ : ∃ bs, bs = w.heap.size + 1 := ⟨_, rfl⟩
  obtain ⟨Z, hZ⟩ : ∃ Z, Z = (Tryz.zeroCells247.toList.set 256 (.slice (some ⟨w.heap.size, 0, none⟩) 0 3)).toArray := ⟨_, rfl⟩
  obtain ⟨X, hX⟩ : ∃ X, X = (w.alloc (.cells (madeCells #[.string ⟨#[]⟩] 3) 9)).alloc (.cells Z 247) := ⟨_, rfl⟩
  rw [← hZ, ← hX, ← hbs]
  have hblk : Blk X bs Z 247 := by rw [hX, hbs]; have := Blk.new (w.alloc (.cells (madeCells #[.string ⟨#[]⟩] 3) 9)) Z 247; simpa using this
  have hown : Own X 9 1 (.slice (some ⟨w.heap.size, 0, none⟩) 0 3) 0 [] [w.heap.size] := by
    refine ⟨rfl, Or.inr ⟨w.heap.size, 3, madeCells #[.string ⟨#[]⟩] 3, rfl, rfl, ?_, by decide, by decide, by simp [madeCells], by simp⟩⟩
    rw [hX]
    exact (Blk.new w _ _).alloc _
  have hm : Mod [] w X := by rw [hX]; exact ((Mod.refl [] w).alloc _).alloc _
  have HR : Hid (Rp w bs X Z (.slice (some ⟨w.heap.size, 0, none⟩) 0 3) 0 [] [w.heap.size]) := ⟨hblk, hown, hm, by rw [hbs]; simp, by simp, by omega⟩
  have zs : Z.size = 257 := by rw [hZ]; rfl
  have zn : ∀ i, i < 256 → Z[i]? = some (.slice none 0 0) := by
    intro i hi
    rw [hZ, List.getElem?_toArray, List.getElem?_set_ne (by omega), Array.getElem?_toList]
    exact zero_at i hi
  have z256 : Z[256]? = some (.slice (some ⟨w.heap.size, 0, none⟩) 0 3) := by rw [hZ]; rfl
  have qT : ∀ (w : World) (a : Option Addr) (n c n' c' : Nat), (binOp .eql 41 (.slice a n c) (.slice none n' c')).run Tryz.prog w = .ok (.bool a.isNone) w := fun w a n c n' c' => Lib.run_eql_slice_nil w _ _ a n c n' c' Tryz.underlying41
  have k256 := (hblk.cell 256).trans z256
  have k10 := (hblk.cell 10).trans (zn 10 (by decide))
  have g4 := hm.cellSome h4 (by simp)
  have g5 := hm.cellSome h5 (by simp)
  have HZV := hid z256
  have HZN := hid zn
  have HZS := hid zs
  have H03 := hid (And.intro h0 (And.intro h1 (And.intro h2 h3)))
  clear hblk hown hm hZ hX hbs h0 h1 h2 h3 h4 h5 hst hmk c4 zs zn z256
  have ix10 := run_at ⟨#[10]⟩ 0 10 rfl
  have ix34 := run_at ⟨#[34]⟩ 0 34 rfl
  have ix92 := run_at ⟨#[92]⟩ 0 92 rfl
  simp only [Int.natCast_zero] at ix10 ix34 ix92
  have hel : (Tryz.prog.info? 9).map (fun i => (i.zero, i.size, i.bytes)) = some (some (.string ⟨#[]⟩), 1, 16) := by kernel_rfl
  have HEL := hid hel
  clear hel
  refine wp_loop_rounds 4 ?_
  -- round 1: 10
  have cv10 : ∀ W : World, (convert 41 9 (.slice (some ⟨W.heap.size, 0, none⟩) 1 1)).run Tryz.prog (W.alloc (.cells #[.int .u8 10] 5)) = .ok (.string ⟨#[10]⟩) (W.alloc (.cells #[.int .u8 10] 5)) := one_byte 10
  have cvn10 : ∀ W : World, (convert 9 41 qnV).run Tryz.prog W = .ok (.slice (some ⟨W.heap.size, 0, none⟩) 2 (grownCap W 2 0 5)) (Lib.bytesWorld W 5 ⟨#[92, 110]⟩) := two_bytes ⟨#[92, 110]⟩
  obtain ⟨W2_1, hW2⟩ : ∃ W2, W2 = (X.alloc (.cells #[.int .u8 10] 5)).alloc (.cells #[.string ⟨#[10]⟩] 9) := ⟨_, rfl⟩
  have hm2 : Mod [] X W2_1 := by rw [hW2]; exact ((Mod.refl [] X).alloc _).alloc _
  have hrd2 : Rdl W2_1 1 (.slice (some ⟨X.heap.size + 1, 0, none⟩) 1 1) 1 [.string ⟨#[10]⟩] := by
    refine ⟨rfl, Or.inr ⟨X.heap.size + 1, 0, 1, rfl, fun j hj => ?_⟩⟩
    have hj0 : j = 0 := by omega
    subst hj0
    rw [hW2]
    simp
  have HOW2 := hid (HR.out.own.mod hm2 (by simp))
  have HRD2 := hid hrd2
  have HBL2 := hid (hm2.blk HR.out.blk (by simp))
  have HM2 := hid hm2
  have HW2 := hid hW2
  have HNB := hid HR.out.new
  have HONE : Hid (∀ u ∈ [Value.string ⟨#[10]⟩], u.oneCell' = true) := fun u hu => by simp at hu; subst hu; rfl
  clear hrd2 hm2 hW2
  rw [rounds_succ]
  go_wp2_with (at_builtin; rw [← HW2.out]; refine wpList_append_rdl rfl (.tmp 119) (.tmp 123) 49 9 rfl Tryz.underlying49 HEL.out rfl (by decide) rfl HOW2.out rfl HRD2.out HONE.out (by decide) (by decide) ?_; intro v1 w1_1 L1_1 g1 g2 g3; obtain ⟨a1_1, p1_1, rfl, _⟩ := Own.val g1.out; have hb1 := g2.out.blk HBL2.out HNB.out; have c1 := (hb1.cell 256).trans HZV.out; have f1 := hb1.free 256; have hb3 := hb1.set 256 (.slice a1_1 (0 + 1) p1_1); have hb4 := (mod_bytes (w1_1.setCell ⟨bs, 256, none⟩ (.slice a1_1 (0 + 1) p1_1)) ⟨#[92, 110]⟩).blk hb3 (by simp); have c4 := (hb4.cell 10).trans ((Array.getElem?_setIfInBounds_ne (by decide)).trans (HZN.out 10 (by decide))); have f4 := hb4.free 10; clear hb1 hb3 hb4)
  obtain ⟨u, hu⟩ : ∃ u, u = Value.slice (some ⟨w1_1.heap.size, 0, none⟩) 2 (grownCap (w1_1.setCell ⟨bs, 256, none⟩ (.slice a1_1 1 p1_1)) 2 0 5) := ⟨_, rfl⟩
  rw [← hu]
  have hst : Rp w bs _ _ _ 1 [qn] L1_1 ∧ _ := rp_step HR.out HM2.out g1.out g2.out g3.out 10 ⟨#[92, 110]⟩ u
  obtain ⟨X1, hX⟩ : ∃ X, X = (Lib.bytesWorld (w1_1.setCell ⟨bs, 256, none⟩ (.slice a1_1 1 p1_1)) 5 ⟨#[92, 110]⟩).setCell ⟨bs, 10, none⟩ u := ⟨_, rfl⟩
  rw [← hX] at hst ⊢
  have hzz := z_set Z HZS.out (.slice a1_1 1 p1_1) u 10 (by decide)
  obtain ⟨Z1, hZ⟩ : ∃ Z', Z' = (Z.setIfInBounds 256 (.slice a1_1 1 p1_1)).setIfInBounds 10 u := ⟨_, rfl⟩
  rw [← hZ] at hst hzz
  obtain ⟨r1, r2, r3⟩ := hst
  obtain ⟨y1, y2, y3, y4⟩ := hzz
  have hq : w1_1.heap.size < X1.heap.size := by rw [hX]; simp only [World.setCell, Array.size_modify, bytes_size]; omega
  have rep10 : RepAt w.heap.size X1 Z1 10 ⟨#[92, 110]⟩ bs L1_1 := by
    refine ⟨w1_1.heap.size, _, by rw [y3, hu], ?_, ?_, ?_, ?_, hq⟩
    · have := r3
      simpa [World.setCell] using this
    · have := HR.out.mod.size; have := HM2.out.size; have := g2.out.size; omega
    · have := HR.out.blk.lt; have := HM2.out.size; have := g2.out.size; omega
    · intro hc; have := g1.out.lt _ hc; omega
  have zn' : ∀ i, i < 256 → i ≠ 10 → Z1[i]? = some (.slice none 0 0) := by
    intro i hi n10
    rw [y4 i hi n10]
    exact HZN.out i hi 
  clear k256 k10 g4 g5
  have k256 := (r1.blk.cell 256).trans y2
  have k92 := (r1.blk.cell 92).trans (zn' 92 (by decide) (by decide))
  have g4 := r1.mod.cellSome H03.out.2.2.1 (by simp)
  have g5 := r1.mod.cellSome H03.out.2.2.2 (by simp)
  have HR1 := hid r1
  clear HZN HZS HZV
  have HZN := hid zn'
  have HZS := hid y1
  have HZV := hid y2
  have HREP10 := hid rep10
  clear rep10
  have HU := hid hu
  clear hu hX hZ r1 r2 r3 y1 y2 y3 y4 zn' hq cv10 cvn10 g1 g2 g3 HOW2 HRD2 HBL2 HM2 HW2 HNB HONE c1 f1 c4 f4
  -- round 2: 92
  have cv92 : ∀ W : World, (convert 41 9 (.slice (some ⟨W.heap.size, 0, none⟩) 1 1)).run Tryz.prog (W.alloc (.cells #[.int .u8 92] 5)) = .ok (.string ⟨#[92]⟩) (W.alloc (.cells #[.int .u8 92] 5)) := one_byte 92
  have cvn92 : ∀ W : World, (convert 9 41 qbV).run Tryz.prog W = .ok (.slice (some ⟨W.heap.size, 0, none⟩) 2 (grownCap W 2 0 5)) (Lib.bytesWorld W 5 ⟨#[92, 92]⟩) := two_bytes ⟨#[92, 92]⟩
  obtain ⟨W2_2, hW2⟩ : ∃ W2, W2 = (X1.alloc (.cells #[.int .u8 92] 5)).alloc (.cells #[.string ⟨#[92]⟩] 9) := ⟨_, rfl⟩
  have hm2 : Mod [] X1 W2_2 := by rw [hW2]; exact ((Mod.refl [] X1).alloc _).alloc _
  have hrd2 : Rdl W2_2 1 (.slice (some ⟨X1.heap.size + 1, 0, none⟩) 1 1) 1 [.string ⟨#[92]⟩] := by
    refine ⟨rfl, Or.inr ⟨X1.heap.size + 1, 0, 1, rfl, fun j hj => ?_⟩⟩
    have hj0 : j = 0 := by omega
    subst hj0
    rw [hW2]
    simp
  have HOW2 := hid (HR1.out.own.mod hm2 (by simp))
  have HRD2 := hid hrd2
  have HBL2 := hid (hm2.blk HR1.out.blk (by simp))
  have HM2 := hid hm2
  have HW2 := hid hW2
  have HNB := hid HR1.out.new
  have HONE : Hid (∀ u ∈ [Value.string ⟨#[92]⟩], u.oneCell' = true) := fun u hu => by simp at hu; subst hu; rfl
  clear hrd2 hm2 hW2
  rw [rounds_succ]
  go_wp2_with (at_builtin; rw [← HW2.out]; refine wpList_append_rdl rfl (.tmp 119) (.tmp 123) 49 9 rfl Tryz.underlying49 HEL.out rfl (by decide) rfl HOW2.out rfl HRD2.out HONE.out (by decide) (by decide) ?_; intro v1 w1_2 L1_2 g1 g2 g3; obtain ⟨a1_2, p1_2, rfl, _⟩ := Own.val g1.out; have hb1 := g2.out.blk HBL2.out HNB.out; have c1 := (hb1.cell 256).trans HZV.out; have f1 := hb1.free 256; have hb3 := hb1.set 256 (.slice a1_2 (1 + 1) p1_2); have hb4 := (mod_bytes (w1_2.setCell ⟨bs, 256, none⟩ (.slice a1_2 (1 + 1) p1_2)) ⟨#[92, 92]⟩).blk hb3 (by simp); have c4 := (hb4.cell 92).trans ((Array.getElem?_setIfInBounds_ne (by decide)).trans (HZN.out 92 (by decide) (by decide))); have f4 := hb4.free 92; clear hb1 hb3 hb4)
  obtain ⟨u, hu⟩ : ∃ u, u = Value.slice (some ⟨w1_2.heap.size, 0, none⟩) 2 (grownCap (w1_2.setCell ⟨bs, 256, none⟩ (.slice a1_2 2 p1_2)) 2 0 5) := ⟨_, rfl⟩
  rw [← hu]
  have hst : Rp w bs _ _ _ 2 [qn, qb] L1_2 ∧ _ := rp_step HR1.out HM2.out g1.out g2.out g3.out 92 ⟨#[92, 92]⟩ u
  obtain ⟨X2, hX⟩ : ∃ X, X = (Lib.bytesWorld (w1_2.setCell ⟨bs, 256, none⟩ (.slice a1_2 2 p1_2)) 5 ⟨#[92, 92]⟩).setCell ⟨bs, 92, none⟩ u := ⟨_, rfl⟩
  rw [← hX] at hst ⊢
  have hzz := z_set Z1 HZS.out (.slice a1_2 2 p1_2) u 92 (by decide)
  obtain ⟨Z2, hZ⟩ : ∃ Z', Z' = (Z1.setIfInBounds 256 (.slice a1_2 2 p1_2)).setIfInBounds 92 u := ⟨_, rfl⟩
  rw [← hZ] at hst hzz
  obtain ⟨r1, r2, r3⟩ := hst
  obtain ⟨y1, y2, y3, y4⟩ := hzz
  have hq : w1_2.heap.size < X2.heap.size := by rw [hX]; simp only [World.setCell, Array.size_modify, bytes_size]; omega
  have rep92 : RepAt w.heap.size X2 Z2 92 ⟨#[92, 92]⟩ bs L1_2 := by
    refine ⟨w1_2.heap.size, _, by rw [y3, hu], ?_, ?_, ?_, ?_, hq⟩
    · have := r3
      simpa [World.setCell] using this
    · have := HR1.out.mod.size; have := HM2.out.size; have := g2.out.size; omega
    · have := HR1.out.blk.lt; have := HM2.out.size; have := g2.out.size; omega
    · intro hc; have := g1.out.lt _ hc; omega
  have rep10 : RepAt w.heap.size X2 Z2 10 ⟨#[92, 110]⟩ bs L1_2 := by
    obtain ⟨q, cap, q1, q2, q3, q4, q5, q6⟩ := HREP10.out
    refine ⟨q, cap, by rw [y4 10 (by decide) (by decide)]; exact q1, q2.mod r2 (by simp [q4, q5]), q3, q4, ?_, Nat.lt_of_lt_of_le q6 r2.size⟩
    intro hc
    rcases g3.out _ hc with h | h
    · exact q5 h
    · have := HM2.out.size; omega
  have zn' : ∀ i, i < 256 → i ≠ 10 → i ≠ 92 → Z2[i]? = some (.slice none 0 0) := by
    intro i hi n10 n92
    rw [y4 i hi n92]
    exact HZN.out i hi n10
  clear k256 k92 g4 g5
  have k256 := (r1.blk.cell 256).trans y2
  have k34 := (r1.blk.cell 34).trans (zn' 34 (by decide) (by decide) (by decide))
  have g4 := r1.mod.cellSome H03.out.1 (by simp)
  have g5 := r1.mod.cellSome H03.out.2.1 (by simp)
  have HR2 := hid r1
  clear HZN HZS HZV
  have HZN := hid zn'
  have HZS := hid y1
  have HZV := hid y2
  clear HREP10
  have HREP10 := hid rep10
  clear rep10
  have HREP92 := hid rep92
  clear rep92
  have HU := hid hu
  clear hu hX hZ r1 r2 r3 y1 y2 y3 y4 zn' hq cv92 cvn92 g1 g2 g3 HOW2 HRD2 HBL2 HM2 HW2 HNB HONE c1 f1 c4 f4
  -- round 3: 34
  have cv34 : ∀ W : World, (convert 41 9 (.slice (some ⟨W.heap.size, 0, none⟩) 1 1)).run Tryz.prog (W.alloc (.cells #[.int .u8 34] 5)) = .ok (.string ⟨#[34]⟩) (W.alloc (.cells #[.int .u8 34] 5)) := one_byte 34
  have cvn34 : ∀ W : World, (convert 9 41 qqV).run Tryz.prog W = .ok (.slice (some ⟨W.heap.size, 0, none⟩) 2 (grownCap W 2 0 5)) (Lib.bytesWorld W 5 ⟨#[92, 34]⟩) := two_bytes ⟨#[92, 34]⟩
  obtain ⟨W2_3, hW2⟩ : ∃ W2, W2 = (X2.alloc (.cells #[.int .u8 34] 5)).alloc (.cells #[.string ⟨#[34]⟩] 9) := ⟨_, rfl⟩
  have hm2 : Mod [] X2 W2_3 := by rw [hW2]; exact ((Mod.refl [] X2).alloc _).alloc _
  have hrd2 : Rdl W2_3 1 (.slice (some ⟨X2.heap.size + 1, 0, none⟩) 1 1) 1 [.string ⟨#[34]⟩] := by
    refine ⟨rfl, Or.inr ⟨X2.heap.size + 1, 0, 1, rfl, fun j hj => ?_⟩⟩
    have hj0 : j = 0 := by omega
    subst hj0
    rw [hW2]
    simp
  have HOW2 := hid (HR2.out.own.mod hm2 (by simp))
  have HRD2 := hid hrd2
  have HBL2 := hid (hm2.blk HR2.out.blk (by simp))
  have HM2 := hid hm2
  have HW2 := hid hW2
  have HNB := hid HR2.out.new
  have HONE : Hid (∀ u ∈ [Value.string ⟨#[34]⟩], u.oneCell' = true) := fun u hu => by simp at hu; subst hu; rfl
  clear hrd2 hm2 hW2
  rw [rounds_succ]
  go_wp2_with (at_builtin; rw [← HW2.out]; refine wpList_append_rdl rfl (.tmp 119) (.tmp 123) 49 9 rfl Tryz.underlying49 HEL.out rfl (by decide) rfl HOW2.out rfl HRD2.out HONE.out (by decide) (by decide) ?_; intro v1 w1_3 L1_3 g1 g2 g3; obtain ⟨a1_3, p1_3, rfl, _⟩ := Own.val g1.out; have hb1 := g2.out.blk HBL2.out HNB.out; have c1 := (hb1.cell 256).trans HZV.out; have f1 := hb1.free 256; have hb3 := hb1.set 256 (.slice a1_3 (2 + 1) p1_3); have hb4 := (mod_bytes (w1_3.setCell ⟨bs, 256, none⟩ (.slice a1_3 (2 + 1) p1_3)) ⟨#[92, 34]⟩).blk hb3 (by simp); have c4 := (hb4.cell 34).trans ((Array.getElem?_setIfInBounds_ne (by decide)).trans (HZN.out 34 (by decide) (by decide) (by decide))); have f4 := hb4.free 34; clear hb1 hb3 hb4)
  obtain ⟨u, hu⟩ : ∃ u, u = Value.slice (some ⟨w1_3.heap.size, 0, none⟩) 2 (grownCap (w1_3.setCell ⟨bs, 256, none⟩ (.slice a1_3 3 p1_3)) 2 0 5) := ⟨_, rfl⟩
  rw [← hu]
  have hst : Rp w bs _ _ _ 3 [qn, qb, qq] L1_3 ∧ _ := rp_step HR2.out HM2.out g1.out g2.out g3.out 34 ⟨#[92, 34]⟩ u
  obtain ⟨X3, hX⟩ : ∃ X, X = (Lib.bytesWorld (w1_3.setCell ⟨bs, 256, none⟩ (.slice a1_3 3 p1_3)) 5 ⟨#[92, 34]⟩).setCell ⟨bs, 34, none⟩ u := ⟨_, rfl⟩
  rw [← hX] at hst ⊢
  have hzz := z_set Z2 HZS.out (.slice a1_3 3 p1_3) u 34 (by decide)
  obtain ⟨Z3, hZ⟩ : ∃ Z', Z' = (Z2.setIfInBounds 256 (.slice a1_3 3 p1_3)).setIfInBounds 34 u := ⟨_, rfl⟩
  rw [← hZ] at hst hzz
  obtain ⟨r1, r2, r3⟩ := hst
  obtain ⟨y1, y2, y3, y4⟩ := hzz
  have hq : w1_3.heap.size < X3.heap.size := by rw [hX]; simp only [World.setCell, Array.size_modify, bytes_size]; omega
  have rep34 : RepAt w.heap.size X3 Z3 34 ⟨#[92, 34]⟩ bs L1_3 := by
    refine ⟨w1_3.heap.size, _, by rw [y3, hu], ?_, ?_, ?_, ?_, hq⟩
    · have := r3
      simpa [World.setCell] using this
    · have := HR2.out.mod.size; have := HM2.out.size; have := g2.out.size; omega
    · have := HR2.out.blk.lt; have := HM2.out.size; have := g2.out.size; omega
    · intro hc; have := g1.out.lt _ hc; omega
  have rep10 : RepAt w.heap.size X3 Z3 10 ⟨#[92, 110]⟩ bs L1_3 := by
    obtain ⟨q, cap, q1, q2, q3, q4, q5, q6⟩ := HREP10.out
    refine ⟨q, cap, by rw [y4 10 (by decide) (by decide)]; exact q1, q2.mod r2 (by simp [q4, q5]), q3, q4, ?_, Nat.lt_of_lt_of_le q6 r2.size⟩
    intro hc
    rcases g3.out _ hc with h | h
    · exact q5 h
    · have := HM2.out.size; omega
  have rep92 : RepAt w.heap.size X3 Z3 92 ⟨#[92, 92]⟩ bs L1_3 := by
    obtain ⟨q, cap, q1, q2, q3, q4, q5, q6⟩ := HREP92.out
    refine ⟨q, cap, by rw [y4 92 (by decide) (by decide)]; exact q1, q2.mod r2 (by simp [q4, q5]), q3, q4, ?_, Nat.lt_of_lt_of_le q6 r2.size⟩
    intro hc
    rcases g3.out _ hc with h | h
    · exact q5 h
    · have := HM2.out.size; omega
  have zn' : ∀ i, i < 256 → i ≠ 10 → i ≠ 92 → i ≠ 34 → Z3[i]? = some (.slice none 0 0) := by
    intro i hi n10 n92 n34
    rw [y4 i hi n34]
    exact HZN.out i hi n10 n92
  have HR3 := hid r1
  clear HZN HZS HZV
  have HZN := hid zn'
  have HZS := hid y1
  have HZV := hid y2
  clear HREP10
  have HREP10 := hid rep10
  clear rep10
  clear HREP92
  have HREP92 := hid rep92
  clear rep92
  have HREP34 := hid rep34
  clear rep34
  have HU := hid hu
  clear hu hX hZ r1 r2 r3 y1 y2 y3 y4 zn' hq cv34 cvn34 g1 g2 g3 HOW2 HRD2 HBL2 HM2 HW2 HNB HONE c1 f1 c4 f4
  rw [rounds_succ]
  go_wp2_with fail
  go_ret
  exact ⟨bs, rfl, HR3.out.mod, Z3, _, _, HR3.out.blk, HR3.out.own, HZS.out, HZV.out, HR3.out.b0, HR3.out.L0, HZN.out, HREP10.out, HREP92.out, HREP34.out⟩
end
end Go.Proofs.YtibhkldnimfnkaaGreatDoor

/- Script: a replacer, new; its first use. -/
namespace Go.Proofs.YtibhkldnimfnkaaGreatDoor
section
set_option linter.unusedVariables false
set_option linter.unusedSimpArgs false
set_option linter.unusedSectionVars false
open Go.RowKit

theorem RepAt.keep {N : Nat} {W W' : World} {Z : Array Value} {o : Nat} {s : ByteArray} {bs : Nat} {L l : List Nat} (h : RepAt N W Z o s bs L) (hm : Mod l W W') (hl : ∀ y ∈ l, y < N) : RepAt N W' Z o s bs L := by
  obtain ⟨q, cap, h1, h2, h3, h4, h5, h6⟩ := h
  exact ⟨q, cap, h1, h2.mod hm (fun hc => by have := hl _ hc; omega), h3, h4, h5, Nat.lt_of_lt_of_le h6 hm.size⟩
theorem Bsr.keep {N : Nat} {W W' : World} {bs : Nat} {l : List Nat} (h : Bsr N W bs) (hm : Mod l W W') (hl : ∀ y ∈ l, y < N) : Bsr N W' bs := by
  obtain ⟨Z, V, L, h1, h2, h3, h4, h5, h6, h7, h8, h9, h10⟩ := h
  exact ⟨Z, V, L, hm.blk h1 (fun hc => by have := hl _ hc; omega), h2.mod hm (fun y hy hc => by have := hl _ hc; have := h6 _ hy; omega), h3, h4, h5, h6, h7, h8.keep hm hl, h9.keep hm hl, h10.keep hm hl⟩
theorem RepAt.mono {N N' : Nat} {W : World} {Z : Array Value} {o : Nat} {s : ByteArray} {bs : Nat} {L : List Nat} (h : RepAt N W Z o s bs L) (hN : N' ≤ N) : RepAt N' W Z o s bs L := by
  obtain ⟨q, cap, h1, h2, h3, h4, h5, h6⟩ := h
  exact ⟨q, cap, h1, h2, by omega, h4, h5, h6⟩
theorem Bsr.mono {N N' : Nat} {W : World} {bs : Nat} (h : Bsr N W bs) (hN : N' ≤ N) : Bsr N' W bs := by
  obtain ⟨Z, V, L, h1, h2, h3, h4, h5, h6, h7, h8, h9, h10⟩ := h
  exact ⟨Z, V, L, h1, h2, h3, h4, by omega, fun y hy => by have := h6 y hy; omega, h7, h8.mono hN, h9.mono hN, h10.mono hN⟩

/-- The six texts of the replacer, in a block. -/
def Six (w : World) (g : Nat) : Prop := w.cell? ⟨g, 0, none⟩ = some qq ∧ w.cell? ⟨g, 1, none⟩ = some qqV ∧ w.cell? ⟨g, 2, none⟩ = some qb ∧ w.cell? ⟨g, 3, none⟩ = some qbV ∧ w.cell? ⟨g, 4, none⟩ = some qn ∧ w.cell? ⟨g, 5, none⟩ = some qnV
theorem Six.mod {w w' : World} {g : Nat} {l : List Nat} (h : Six w g) (hm : Mod l w w') (hn : g ∉ l) : Six w' g :=
  ⟨hm.cellSome h.1 hn, hm.cellSome h.2.1 hn, hm.cellSome h.2.2.1 hn, hm.cellSome h.2.2.2.1 hn, hm.cellSome h.2.2.2.2.1 hn, hm.cellSome h.2.2.2.2.2 hn⟩

set_option maxRecDepth 100000 in
set_option maxHeartbeats 3200000 in
theorem buildOnce_c (R g cap : Nat) (v0 v1 v2 v3 : Value) (w : World) (hB : Blk w R #[v0, v1, v2, v3, .slice (some ⟨g, 0, none⟩) 6 cap] rpT) (h6 : Six w g) :
    Calls Tryz.prog 131 #[.pointer (some ⟨R, 0, none⟩)] w fun e w' => e = .returned (.tuple #[]) ∧ Mod [R] w w' ∧ ∃ bs, Blk w' R #[v0, v1, v2, .iface 248 (.pointer (some ⟨bs, 0, none⟩)), .slice none 0 0] rpT ∧ Bsr w.heap.size w' bs := by
  have HC := hid (build_c R g cap v0 v1 v2 v3 w hB h6.1 h6.2.1 h6.2.2.1 h6.2.2.2.1 h6.2.2.2.2.1 h6.2.2.2.2.2)
  have HB := hid hB
  have hlt := hB.lt
  clear hB h6
  go_enter Tryz.func131, Tryz.ntmps131
  go_wp2_with fail
  refine HC.out.mono ?_
  rintro e w1 ⟨bs, rfl, hm, hs⟩
  have hB1 := hm.blk HB.out (by simp)
  have c3 := hB1.cell 3
  have f3 := hB1.free 3
  have hB2 := hB1.set 3 (.iface 248 (.pointer (some ⟨bs, 0, none⟩)))
  have c4 := hB2.cell 4
  have f4 := hB2.free 4
  simp only [List.getElem?_toArray, List.getElem?_cons_zero, List.getElem?_cons_succ, List.setIfInBounds_toArray, List.set_cons_succ, List.set_cons_zero] at c3 c4
  have hB3 := hB2.set 4 (.slice none 0 0)
  have hm3 : Mod [R] w ((w1.setCell ⟨R, 3, none⟩ (.iface 248 (.pointer (some ⟨bs, 0, none⟩)))).setCell ⟨R, 4, none⟩ (.slice none 0 0)) := ((hm.mono (fun x hx _ => by cases hx)).setCell (Or.inl (by simp)) _).setCell (Or.inl (by simp)) _
  have hmS : Mod [R] w1 ((w1.setCell ⟨R, 3, none⟩ (.iface 248 (.pointer (some ⟨bs, 0, none⟩)))).setCell ⟨R, 4, none⟩ (.slice none 0 0)) := ((Mod.refl [R] w1).setCell (Or.inl (by simp)) _).setCell (Or.inl (by simp)) _
  have HB3 := hid hB3
  have HM3 := hid hm3
  have HS := hid (hs.keep hmS (by simpa using hlt))
  clear hm hs hB1 hB2 hB3 hm3 hmS
  go_wp2_with fail
  go_end0
  exact ⟨rfl, HM3.out, bs, HB3.out, HS.out⟩

abbrev sixC : List Value := [qq, qqV, qb, qbV, qn, qnV]
set_option maxRecDepth 100000 in
set_option maxHeartbeats 3200000 in
theorem newReplacer_c (nb : Nat) (w : World) (h6 : Blk w nb sixC.toArray 9) :
    Calls Tryz.prog 121 #[.slice (some ⟨nb, 0, none⟩) 6 6] w fun e w' => ∃ R g cap, e = .returned (.pointer (some ⟨R, 0, none⟩)) ∧ Mod [] w w' ∧ w.heap.size ≤ R ∧ g ≠ R ∧ Six w' g ∧ Blk w' R #[.int .u32 0, .int .i32 0, .int .u32 0, .nilIface, .slice (some ⟨g, 0, none⟩) 6 cap] rpT := by
  have hrd : Rdl w 1 (.slice (some ⟨nb, 0, none⟩) 6 6) 6 sixC := by
    refine ⟨rfl, Or.inr ⟨nb, 0, 6, rfl, fun j hj => ?_⟩⟩
    rw [Nat.zero_add, h6.cell]
    simp
  have HRD := hid hrd
  have HONE : Hid (∀ u ∈ sixC, u.oneCell' = true) := fun u hu => by simp at hu; rcases hu with rfl | rfl | rfl | rfl | rfl | rfl <;> rfl
  have hel : (Tryz.prog.info? 9).map (fun i => (i.zero, i.size, i.bytes)) = some (some (.string ⟨#[]⟩), 1, 16) := by kernel_rfl
  have HEL := hid hel
  clear hrd h6 hel
  go_enter Tryz.func121, Tryz.ntmps121
  go_wp2_with (at_builtin; refine wpList_append_rdl rfl (.const (.slice none 0 0)) (.tmp 8) 49 9 rfl Tryz.underlying49 HEL.out rfl (by decide) rfl (Own.nil _ _ _) rfl HRD.out HONE.out (by decide) (by decide) ?_; intro v1 w1 L1 g1 g2 g3; obtain ⟨a1, p1, rfl, hv⟩ := Own.val g1.out; have HV := hid hv; clear hv)
  go_ret
  obtain ⟨g, rfl, rfl, hc⟩ := HV.out.2.2 (by decide)
  have hg := g1.out.lt g (by simp)
  have hcs : ∀ j, j < 6 → (w1.alloc (.cells #[.int .u32 0, .int .i32 0, .int .u32 0, .nilIface, .slice (some ⟨g, 0, none⟩) 6 p1] rpT)).cell? ⟨g, j, none⟩ = sixC[j]? := fun j hj => by
    rw [World.cell?_alloc_past _ _ _ hg]
    exact hc j (by omega)
  exact ⟨w1.heap.size, g, p1, rfl, g2.out.alloc _, g2.out.size, by omega, ⟨hcs 0 (by decide), hcs 1 (by decide), hcs 2 (by decide), hcs 3 (by decide), hcs 4 (by decide), hcs 5 (by decide)⟩, Blk.new _ _ _⟩
end
end Go.Proofs.YtibhkldnimfnkaaGreatDoor
