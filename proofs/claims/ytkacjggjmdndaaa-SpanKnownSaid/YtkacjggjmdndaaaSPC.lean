/- order, and the search in order. -/
import Derived.Test.YtkacjggjmdndaaaSPB
import Derived.Test.YtkacjggjmdndaaaK6
namespace Go.Proofs.Ytkacjggjmdndaaa
set_option linter.unusedVariables false
set_option linter.unusedSimpArgs false
set_option linter.unusedSectionVars false
open Go.RowKit

def rgC (x : Rg) : List Value := [.string x.lo, .string x.hi, .int .u64 x.ts]
abbrev rgV (x : Rg) : Value := .agg #[.string x.lo, .string x.hi, .int .u64 x.ts]
abbrev wiV (x : Rg) : Value := .agg #[.string x.lo, .string x.hi]
theorem rg_lays : Lays 3 rgC := ⟨fun _ => rfl, fun x u hu => by simp [rgC] at hu; rcases hu with rfl | rfl | rfl <;> rfl, by decide⟩

theorem eq_within (a b c d : ByteArray) (w : World) : (Op.equalIn 10000 46 (.agg #[.string a, .string b]) (.agg #[.string c, .string d])).run Try.prog w = .ok (a.toList == c.toList && b.toList == d.toList) w := by
  have u9 := Try.underlying9
  have hS : Try.prog.underlying 46 = some (.struct (Try.prog.fieldsOf 46)) := by kernel_rfl
  have hp : Try.prog.stoodInHeld 46 = false := by kernel_rfl
  rw [show (10000 : Nat) = 9999 + 1 from rfl, run_equalIn_agg w 9999 46 _ _ hS hp]
  simp only [Program.fieldsOf, Try.underlying46]
  go_simp
  cases h1 : (a.toList == c.toList) <;> cases h2 : (b.toList == d.toList) <;> simp_all

/-- The first number that is none of nought. -/
def orI (a b : Int) : Int := if a = 0 then b else a
set_option maxRecDepth 100000 in
theorem or_c (b : Nat) (m n : Int) (w : World) (hb : Blk w b #[.int .i64 m, .int .i64 n] 3) : Calls Try.prog 27 #[.slice (some ⟨b, 0, none⟩) 2 2] w fun e w' => e = .returned (.int .i64 (orI m n)) ∧ w = w' := by
  have c0 : w.cell? ⟨b, 0, none⟩ = some (.int .i64 m) := hb.cell 0
  have c1 : w.cell? ⟨b, 1, none⟩ = some (.int .i64 n) := hb.cell 1
  clear hb
  go_enter Try.func27, Try.ntmps27
  go_wp2
  go_loopg [8] 2 (fun g i wr => ∃ k : Nat, i = .int .i64 k ∧ k + g = 2 ∧ (0 < k → m = 0) ∧ (1 < k → n = 0) ∧ Hid (w = wr))
  · exact ⟨0, rfl, by omega, by omega, by omega, rfl⟩
  · obtain ⟨k, rfl, hk, h1, h2, hw⟩ := hrel
    have hw' := hw.out
    subst hw'
    clear hw
    rcases (by omega : k = 0 ∨ k = 1 ∨ k = 2) with rfl | rfl | rfl
    · by_cases hm : m = 0
      · have f1 : (m == 0) = true := beq_iff_eq.2 hm
        have Hm := hid hm
        clear hm h1 h2
        go_wp2
        go_roundg (gk - 1)
        case measure => omega
        case rel => exact ⟨1, rfl, by omega, fun _ => Hm.out, by omega, rfl⟩
      · have f1 : (m == 0) = false := beq_eq_false_iff_ne.2 hm
        have e : Hid (orI m n = m) := by show _ = _; unfold orI; rw [if_neg hm]
        clear hm h1 h2
        go_wp2
        go_ret
        exact ⟨ret_int e.out.symm, rfl⟩
    · have hm := h1 (by omega)
      have e : Hid (orI m n = n) := by show _ = _; unfold orI; rw [if_pos hm]
      have Hm := hid hm
      clear hm h1 h2
      by_cases hn : n = 0
      · have f1 : (n == 0) = true := beq_iff_eq.2 hn
        have Hn := hid hn
        clear hn
        go_wp2
        go_roundg (gk - 1)
        case measure => omega
        case rel => exact ⟨2, rfl, by omega, fun _ => Hm.out, fun _ => Hn.out, rfl⟩
      · have f1 : (n == 0) = false := beq_eq_false_iff_ne.2 hn
        clear hn
        go_wp2
        go_ret
        exact ⟨ret_int e.out.symm, rfl⟩
    · have hm := h1 (by omega)
      have hn := h2 (by omega)
      have e : Hid (orI m n = 0) := by show _ = _; unfold orI; rw [if_pos hm, hn]
      clear hm hn h1 h2
      go_wp2
      go_ret
      exact ⟨ret_int e.out.symm, rfl⟩

theorem ord_or (x r : Rg) (h : ¬ Al x r) : orI (cmpI x.lo r.lo) (endI x.hi r.hi) = ordI x r := by
  unfold ordI cmpI
  rw [if_neg h]
  by_cases h1 : SL x.lo r.lo
  · rw [if_pos h1, if_pos (show RL x r from Or.inl h1)]; rfl
  · rw [if_neg h1]
    by_cases h2 : x.lo = r.lo
    · rw [if_pos h2]
      have h3 : x.hi ≠ r.hi := fun k => h ⟨h2, k⟩
      unfold orI endI
      rw [if_pos rfl, if_neg h3]
      by_cases h4 : EL x.hi r.hi
      · rw [if_pos h4, if_pos (show RL x r from Or.inr ⟨h2, h4⟩)]
      · rw [if_neg h4, if_neg (fun k : RL x r => k.elim h1 (fun q => h4 q.2))]
    · rw [if_neg h2, if_neg (fun k : RL x r => k.elim h1 (fun q => h2 q.1))]; rfl

set_option maxRecDepth 100000 in
set_option maxHeartbeats 1000000 in
theorem order_c (x r : Rg) (w : World) : Calls Try.prog 23 #[rgV x, wiV r] w fun e w' => e = .returned (.int .i64 (ordI x r)) ∧ Mod [] w w' := by
  have he := eq_within x.lo x.hi r.lo r.hi
  by_cases h : Al x r
  · have f1 := (eqS_iff x.lo r.lo).2 h.1
    have f2 := (eqS_iff x.hi r.hi).2 h.2
    have hc : ordI x r = 0 := by unfold ordI; rw [if_pos h]
    rw [f1, f2] at he
    rw [hc]
    clear hc f1 f2 h
    go_enter Try.func23, Try.ntmps23
    go_wp2
    go_ret
    exact ⟨rfl, ((Mod.refl [] w).alloc _).alloc _⟩
  · have hb : (x.lo.toList == r.lo.toList && x.hi.toList == r.hi.toList) = false := by
      cases hq : (x.lo.toList == r.lo.toList && x.hi.toList == r.hi.toList)
      · rfl
      · rw [Bool.and_eq_true] at hq
        exact absurd ⟨(eqS_iff _ _).1 hq.1, (eqS_iff _ _).1 hq.2⟩ h
    have hc := hid (ord_or x r h)
    rw [hb] at he
    clear hb h
    go_enter Try.func23, Try.ntmps23
    go_upto_region 3 with (fail)
    have hM := hid (((Mod.refl [] w).alloc (.cells #[.string x.lo, .string x.hi, .int .u64 x.ts] 48)).alloc (.cells #[.string r.lo, .string r.hi] 46))
    have hB := ((Blk.new w #[.string x.lo, .string x.hi, .int .u64 x.ts] 48).alloc (.cells #[.string r.lo, .string r.hi] 46))
    have hB2 := Blk.new (w.alloc (.cells #[.string x.lo, .string x.hi, .int .u64 x.ts] 48)) #[.string r.lo, .string r.hi] 46
    rw [World.size_alloc] at hB2
    generalize (w.alloc (.cells #[.string x.lo, .string x.hi, .int .u64 x.ts] 48)).alloc (.cells #[.string r.lo, .string r.hi] 46) = W at *
    have hS : Hid (∀ X, Mod [] W X → X.cell? ⟨w.heap.size, 0, none⟩ = some (.string x.lo) ∧ X.cell? ⟨w.heap.size, 1, none⟩ = some (.string x.hi) ∧ X.cell? ⟨w.heap.size + 1, 0, none⟩ = some (.string r.lo) ∧ X.cell? ⟨w.heap.size + 1, 1, none⟩ = some (.string r.hi)) :=
      fun X hX => ⟨(hX.blk hB (by simp)).cell 0, (hX.blk hB (by simp)).cell 1, (hX.blk hB2 (by simp)).cell 0, (hX.blk hB2 (by simp)).cell 1⟩
    have hS0 := hS.out _ (Mod.refl [] W).drew
    clear hB hB2 he
    go_region_held3 (fun X => Mod [] W X ∧ X.cell? ⟨w.heap.size, 0, none⟩ = some (.string x.lo) ∧ X.cell? ⟨w.heap.size, 1, none⟩ = some (.string x.hi) ∧ X.cell? ⟨w.heap.size + 1, 0, none⟩ = some (.string r.lo) ∧ X.cell? ⟨w.heap.size + 1, 1, none⟩ = some (.string r.hi))
      (first
        | exact ⟨(Mod.refl [] W).drew, hS0⟩
        | assumption
        | (refine (fun h => ⟨h, hS.out _ h⟩) ?_; (repeat (first | exact And.left ‹Mod [] W _ ∧ _› | exact Mod.refl [] W | refine Mod.drew ?_ | refine Mod.alloc ?_ _)); done)
        | fail)
      (first
        | (go_at_call 25; refine (compare_c _ _ _).mono ?_; rintro e w' ⟨rfl, rfl⟩)
        | (go_at_call 17; refine (ends_c _ _ _).mono ?_; rintro e w' ⟨rfl, rfl⟩)
        | (go_at_call 27; (with_reducible refine (or_c _ _ _ _ (Blk.new _ _ _)).mono ?_); rintro e w' ⟨rfl, rfl⟩; rw [hc.out])
        | (go_at_call 27; (with_reducible refine (or_c _ _ _ _ (Blk.new _ _ _).drew).mono ?_); rintro e w' ⟨rfl, rfl⟩; rw [hc.out])
        | fail)
    go_wp2
    go_ret
    exact ⟨rfl, hM.out.tr (And.left ‹Mod [] W _ ∧ _›)⟩

end Go.Proofs.Ytkacjggjmdndaaa
