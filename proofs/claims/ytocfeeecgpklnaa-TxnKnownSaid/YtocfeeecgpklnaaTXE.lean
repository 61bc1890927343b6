/- Which calls are right. -/
import Derived.Test.YtocfeeecgpklnaaTXD
import Derived.Laws.Tables
import Derived.Laws.Rows
namespace Go.Proofs.Ytocfeeecgpklnaa
set_option linter.unusedVariables false
set_option linter.unusedSimpArgs false
set_option linter.unusedSectionVars false
open Go.RowKit

def keyH (k : Int) : Bool := k == 1 || k == 2 || k == 3 || k == 4
def hiH (k : Int) : Bool := k == 2
def valH (k : Int) : Bool := k == 3
def nonS (s : ByteArray) : Bool := !s.toList.isEmpty
/-- Is the call one, of a transaction of this time? -/
def rightB (ts : Nat) (c : Cl) : Bool := decide (1 ≤ c.kind) && decide (c.kind ≤ 6) && decide (c.ts = ts) && (!nonS c.key || keyH c.kind) && (!nonS c.hi || hiH c.kind) && (!nonS c.val || valH c.kind) && (nonS c.key || !keyH c.kind || hiH c.kind)

abbrev kindsV : Value := .agg #[.bool false, .bool false, .bool false, .bool true, .bool false, .bool false, .bool true, .bool true, .bool false, .bool true, .bool false, .bool true, .bool true, .bool false, .bool false, .bool false, .bool false, .bool false, .bool false, .bool false, .bool false]

def kindsA : Array Value := #[.bool false, .bool false, .bool false, .bool true, .bool false, .bool false, .bool true, .bool true, .bool false, .bool true, .bool false, .bool true, .bool true, .bool false, .bool false, .bool false, .bool false, .bool false, .bool false, .bool false, .bool false]
theorem kindsA_one : kindsA.all (·.oneCell') = true := by simp [kindsA, Value.oneCell']
theorem kinds_info : (Try.prog.info? 89).map (·.size) = some kindsA.size := by kernel_rfl

set_option maxRecDepth 100000 in
set_option maxHeartbeats 1000000 in
theorem kinds_c (w : World) : Calls Try.prog 55 #[] w fun e w' => e = .returned (.agg kindsA) ∧ Mod [] w w' := by
  go_enter Try.func55, Try.ntmps55
  go_upto_region 1 with (fail)
  obtain ⟨old, hold⟩ : ∃ old : Array Value, old = #[.bool false, .bool false, .bool false, .bool false, .bool false, .bool false, .bool false, .bool false, .bool false, .bool false, .bool false, .bool false, .bool false, .bool false, .bool false, .bool false, .bool false, .bool false, .bool false, .bool false, .bool false] := ⟨_, rfl⟩
  rw [← hold]
  have hos : Hid (old.size = kindsA.size) := by show _ = _; rw [hold]; rfl
  clear hold
  have hB := Blk.new w old 89
  have hM := (Mod.refl [] w).alloc (.cells old 89)
  generalize w.alloc (.cells old 89) = W at *
  generalize hr : w.heap.size = r0 at *
  have Hr := hid hr
  clear hr
  go_upto_region 2 with (fail)
  have HB := hid (hB.alloc (.cells #[.bool true, .bool false, .bool false] 88))
  have HM := hid (hM.alloc (.cells #[.bool true, .bool false, .bool false] 88))
  have hB1 := Blk.new W #[.bool true, .bool false, .bool false] 88
  generalize W.alloc (.cells #[.bool true, .bool false, .bool false] 88) = W1 at *
  generalize W.heap.size = r1 at *
  have c0 : W1.cell? ⟨r1, 0, none⟩ = some (.bool true) := hB1.cell 0
  have c1 : W1.cell? ⟨r1, 1, none⟩ = some (.bool false) := hB1.cell 1
  have c2 : W1.cell? ⟨r1, 2, none⟩ = some (.bool false) := hB1.cell 2
  have hlt := hB1.lt
  clear hB hM hB1
  go_wp2_with (refine wpList_store_row rfl 89 (.tmp 0) (.tmp 7) rfl r0 kindsA rfl (by simp [Act.eval, Act.put, kindsA]) 89 old HB.out kinds_info hos.out kindsA_one ?_)
  refine bodyPost_ret (v := .agg kindsA) (results_cell_row rfl _ _ r0 89 kindsA (0, 0) _ rfl (setRow_heap W1 r0 old kindsA 89 _ HB.out) Try.underlying89 rfl kinds_info) rfl ⟨rfl, ?_⟩
  exact HM.out.trans (l' := [r0]) ⟨rfl, rfl, rfl, by simp, fun k _ hk => setRow_other W1 r0 k _ (by simpa using hk)⟩ (by simp) (by intro x hx hlt; simp at hx; have := Hr.out; omega)

theorem nonS_yes {s : ByteArray} (h : nonS s = true) : ¬ s.toList = [] ∧ s.toList.isEmpty = false := by
  unfold nonS at h
  cases hq : s.toList.isEmpty
  · exact ⟨(fun e => by rw [e] at hq; cases hq), rfl⟩
  · rw [hq] at h; cases h
theorem nonS_no {s : ByteArray} (h : nonS s = false) : s.toList = [] := by
  unfold nonS at h
  exact List.isEmpty_iff.1 (by simpa using h)

/-- The three parts of a kind, as the array has them. -/
theorem kinds_at (k : Nat) (h1 : 1 ≤ k) (h6 : k ≤ 6) (w : World) : (Instr.index 89 (.agg kindsA) (.int .i64 (k : Int))).run Try.prog w = .ok (.agg #[.bool (keyH k), .bool (hiH k), .bool (valH k)]) w := by
  rcases (by omega : k = 1 ∨ k = 2 ∨ k = 3 ∨ k = 4 ∨ k = 5 ∨ k = 6) with rfl | rfl | rfl | rfl | rfl | rfl <;> kernel_rfl

def rightE (ts : Nat) (c : Cl) : Int := if rightB ts c then 0 else 2

set_option maxRecDepth 100000 in
set_option maxHeartbeats 4000000 in
theorem right_no (w : World) (b : Nat) (t : Tx) (c : Cl) (L : List Nat) (h : txR b t w L) (hn : ¬ (1 ≤ c.kind ∧ c.kind ≤ 6 ∧ c.ts = t.ts)) :
    Calls Try.prog 33 #[.pointer (some ⟨b, 0, none⟩), clV c] w fun e w' => e = .returned (.int .i64 2) ∧ Mod [] w w' := by
  obtain ⟨v, M, hb, ho, hbM, rfl⟩ := h
  have hM := (Mod.refl [] w).alloc (.cells (clC c) 24)
  have hB := hM.blk hb (by simp)
  have b0 : (w.alloc (.cells (clC c) 24)).cell? ⟨b, 0, none⟩ = some (.int .u64 t.ts) := hB.cell 0
  have hbl := hb.lt
  have HM := hid hM
  clear hb ho hM hB
  rcases (by omega : c.kind ≤ 0 ∨ (0 < c.kind ∧ 6 < c.kind) ∨ (0 < c.kind ∧ c.kind ≤ 6 ∧ c.ts ≠ t.ts)) with h1 | ⟨h1, h2⟩ | ⟨h1, h2, h3⟩
  · have d1 : decide (c.kind ≤ 0) = true := by simpa using h1
    clear hn
    go_enter Try.func33, Try.ntmps33
    go_upto_region 1 with (fail)
    go_quiet (fail)
    rename_i nq _
    go_wp2
    go_ret
    exact ⟨rfl, HM.out.drewN nq⟩
  · have d1 : decide (c.kind ≤ 0) = false := by simp; omega
    have h1' : ¬ c.kind ≤ 0 := by omega
    have d2 : decide (6 < c.kind) = true := by simpa using h2
    clear hn
    go_enter Try.func33, Try.ntmps33
    go_upto_region 1 with (fail)
    go_quiet (fail)
    rename_i nq _
    go_wp2
    go_ret
    exact ⟨rfl, HM.out.drewN nq⟩
  · have d1 : decide (c.kind ≤ 0) = false := by simp; omega
    have h1' : ¬ c.kind ≤ 0 := by omega
    have h2' : ¬ 6 < c.kind := by omega
    have d2 : decide (6 < c.kind) = false := by simp; omega
    have d3 : ((c.ts : Int) != (t.ts : Int)) = true := bne_iff_ne.2 (by omega)
    have d4 : ((c.ts : Int) == (t.ts : Int)) = false := beq_eq_false_iff_ne.2 (by omega)
    clear hn h3
    go_enter Try.func33, Try.ntmps33
    go_upto_region 1 with (fail)
    go_quiet (fail)
    rename_i nq _
    go_wp2
    go_ret
    exact ⟨rfl, HM.out.drewN nq⟩

end Go.Proofs.Ytocfeeecgpklnaa
