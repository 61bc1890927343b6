/- Script: parts ZB ZC ZD ZE ZF. -/
import Derived.Test.YtibhkldnimfnkaaGreatDoorG03
import Derived.Defers
import Derived.Recover
import Derived.Deep.QuietTactic
import Derived.BigQuiet
import Derived.Laws.RangeAny
import Derived.Lib.OthersKept
import Derived.WalkMore
import Derived.Laws.ResultCell
import Derived.RangeFuncNested
import Derived.RangeFuncBound
import Derived.RangeFuncCalls
import Derived.RangeFuncLeaves
import Derived.Shelf.Abstract
import Derived.OwnWalkIn
import Derived.TacticsInMore
import Derived.LoopNIn
import Derived.LoopIn
import Derived.Sort.LoopGhostIn

/- Script: what is given up, and taken back. -/
namespace Go.Proofs.YtibhkldnimfnkaaGreatDoor
section
set_option linter.unusedVariables false
set_option linter.unusedSimpArgs false
set_option linter.unusedSectionVars false
open Go.RowKit

/-- What a panic bears. -/
abbrev wrongV (c : Int) : Value := .iface 61 (.agg #[.int .i64 c])
abbrev pan (c : Int) : List PanicEntry := [{ v := wrongV c, recovered := false }]

set_option maxRecDepth 100000 in
theorem must_yes (w : World) : Calls Tryz.prog 43 #[.bool true] w fun e w' => e = .returned (.tuple #[]) ∧ w = w' := by
  go_enter Tryz.func43, Tryz.ntmps43
  go_wp2
  go_end0
  exact ⟨rfl, rfl⟩
set_option maxRecDepth 100000 in
theorem must_no (w : World) : Calls Tryz.prog 43 #[.bool false] w fun e w' => e = .panicked (pan 4) ∧ w = w' := by
  go_enter Tryz.func43, Tryz.ntmps43
  go_wp2
  exact ⟨rfl, rfl, rfl⟩

theorem ta_wrong (c : Int) (w : World) : (Instr.typeAssert (wrongV c) 20 61 true).run Tryz.prog w = .ok (.tuple #[.agg #[.int .i64 c], .bool true]) w := by kernel_rfl

set_option maxRecDepth 100000 in
theorem catch_idle (p : Addr) (w : World) :
    CallsD Tryz.prog 37 #[.pointer (some p)] .returning w fun e u' w' => e = .returned (.tuple #[]) ∧ u' = .returning ∧ w' = w := by
  refine callsD_of_wpS Tryz.func37 rfl fun c₀ cs hu => ?_
  apply wpS_seq
  apply wpS_region
  simp [wpOpsS, go_sem, recoverD, hu, Tryz.ntmps37, Exit.thenS]
  refine wpS_of_wp ?_
  simp only [Array.replicate_succ, Array.replicate_zero, List.push_toArray, List.append_toArray, List.nil_append, List.cons_append, List.setIfInBounds_toArray, List.set_cons_succ, List.set_cons_zero]
  go_wp2
  cases c₀
  simp_all [bodyPostS, results, Tryz.results37]

set_option maxRecDepth 100000 in
theorem catch_pan (b : Nat) (c : Int) (v : Value) (older : List PanicEntry) (w : World) (hb : Blk w b #[v] 27) :
    CallsD Tryz.prog 37 #[.pointer (some ⟨b, 0, none⟩)] (.panicking ({ v := wrongV c, recovered := false } :: older)) w fun e u' w' => e = .returned (.tuple #[]) ∧ u' = .panicking ({ v := wrongV c, recovered := true } :: older) ∧
      w' = (w.setCell ⟨b, 0, none⟩ (.int .i64 c)).alloc (.cells #[.int .i64 c] 61) := by
  have hc := hb.cell 0
  have hz := hb.free 0
  have hl := hb.lt
  have hta := ta_wrong c
  simp at hc
  refine callsD_of_wpS Tryz.func37 rfl fun c₀ cs hu => ?_
  apply wpS_seq
  apply wpS_region
  simp [wpOpsS, go_sem, recoverD, hu, Tryz.ntmps37, Exit.thenS]
  refine wpS_of_wp ?_
  simp only [Array.replicate_succ, Array.replicate_zero, List.push_toArray, List.append_toArray, List.nil_append, List.cons_append, List.setIfInBounds_toArray, List.set_cons_succ, List.set_cons_zero]
  go_wp2
  cases c₀
  simp_all [bodyPostS, results, Tryz.results37]

/-- What is done safely: it ends, or it is given up with a number. -/
def Safe (w0 : World) (b : Nat) (R : Option Int → World → Prop) (e : Ending) (w' : World) : Prop :=
  (∃ v, Blk w' b #[v] 27) ∧ ((e = .returned (.tuple #[]) ∧ R none w') ∨ ∃ c, e = .panicked (pan c) ∧ R (some c) w')
set_option maxRecDepth 100000 in
theorem safely_c (w : World) (k : Nat) (caps : Array Value) (enter : ∀ args w, (callFunc k args).run Tryz.prog w = .ok (.enter k args) w) (R : Option Int → World → Prop)
    (hc : Calls Tryz.prog k caps (w.alloc (.cells #[.int .i64 0] 27)) (Safe w w.heap.size R)) :
    Calls Tryz.prog 22 #[.func (.func k) #[] caps] w fun e w' => ∃ o w1, R o w1 ∧ w1.heap.size ≤ w'.heap.size ∧ w.heap.size < w1.heap.size ∧ Mod [w.heap.size] w1 w' ∧ e = .returned (.int .i64 (o.getD 0)) := by
  have hmf : ∀ (fn : Fn) (first cap : Array Value) (w : World), (Instr.makeFunc fn first cap).run Tryz.prog w = .ok (.func fn first cap) w := fun _ _ _ _ => rfl
  have HC := hid hc
  clear hc
  go_enter_defers Tryz.func22, Tryz.ntmps22
  go_wp2_with fail
  refine HC.out.mono ?_
  rintro e w1 ⟨⟨v, hb⟩, ⟨rfl, hR⟩ | ⟨c, rfl, hR⟩⟩
  · have hl := hb.lt
    have hf := hb.free 0
    have hc := hb.cell 0
    simp at hc
    have HR := hid hR
    have HB := hid hb
    clear hR hb HC
    go_wp2
    refine leaves_cons (f := 37) (args := #[.pointer (some ⟨w.heap.size, 0, none⟩)]) (by simp) (by simp [go_sem]) ?_
    refine (catch_idle ⟨w.heap.size, 0, none⟩ _).mono ?_
    rintro e u' w'' ⟨rfl, rfl, rfl⟩
    have hr : (w1.setCell ⟨w.heap.size, 0, none⟩ (.int .i64 0)).cell? ⟨w.heap.size, 0, none⟩ = some (.int .i64 0) := by go_simp
    simp [Leaves, settle, results, Tryz.results22, go_sem, hr]
    exact ⟨none, w1, HR.out, by simp, hl, (Mod.refl _ _).setCell (by simp) _, rfl⟩
  · have hl := hb.lt
    have HR := hid hR
    have HB := hid hb
    clear hR hb HC
    refine leaves_cons (f := 37) (args := #[.pointer (some ⟨w.heap.size, 0, none⟩)]) (by simp) (by simp [go_sem]) ?_
    refine (catch_pan w.heap.size c v [] _ HB.out).mono ?_
    rintro e u' w'' ⟨rfl, rfl, rfl⟩
    have hr : ((w1.setCell ⟨w.heap.size, 0, none⟩ (.int .i64 c)).alloc (.cells #[.int .i64 c] 61)).cell? ⟨w.heap.size, 0, none⟩ = some (.int .i64 c) := by
      have hf := HB.out.free 0
      have hc := HB.out.cell 0
      simp at hc
      go_simp
    simp [Leaves, settle, results, Tryz.results22, go_sem, hr]
    exact ⟨some c, w1, HR.out, by simp, hl, ((Mod.refl _ _).setCell (by simp) _).alloc _, rfl⟩
end
end Go.Proofs.YtibhkldnimfnkaaGreatDoor

/- Script: a text that is built. -/
namespace Go.Proofs.YtibhkldnimfnkaaGreatDoor
section
set_option linter.unusedVariables false
set_option linter.unusedSimpArgs false
set_option linter.unusedSectionVars false
open Go.RowKit

/-- A builder at block b that holds l; what it has lies at b, and above. -/
def Bld (b : Nat) (l : List UInt8) (w : World) : Prop := Lib.IsBuilderF 70 5 b b (Lib.byteCells l) w
theorem Bld.keep {b : Nat} {l : List UInt8} {w w' : World} (h : Bld b l w) (hk : ∀ k, k < w.heap.size → w'.heap[k]? = w.heap[k]?) : Bld b l w' := by
  have one : ∀ p, Lib.BuilderAtF 70 5 b b p (Lib.byteCells l) w → Lib.BuilderAtF 70 5 b b p (Lib.byteCells l) w' := by
    rintro p ⟨h1, v, h2, ⟨h3, h4⟩, h5⟩
    refine ⟨h1, v, (hk b (Array.getElem?_eq_some_iff.1 h2).1).trans h2, ⟨h3, ?_⟩, h5⟩
    rcases h4 with h4 | ⟨g, cap, cur, fz, e1, e2, e3, e4⟩
    · exact Or.inl h4
    · exact Or.inr ⟨g, cap, cur, fz, e1, e2, (hk g (Array.getElem?_eq_some_iff.1 e3).1).trans e3, e4⟩
  exact h.elim (fun h => Or.inl (one _ h)) (fun h => Or.inr (one _ h))
theorem Bld.mod {b : Nat} {l : List UInt8} {w w' : World} (h : Bld b l w) (hm : Mod [] w w') : Bld b l w' := h.keep fun k hk => hm.block k hk (by simp)
theorem Bld.lt {b : Nat} {l : List UInt8} {w : World} (h : Bld b l w) : b < w.heap.size := h.elim (fun h => h.lt) (fun h => h.lt)
theorem Bld.start (w : World) : Bld w.heap.size [] (w.alloc (.cells #[.pointer none, .slice none 0 0] 70)) := by
  refine Or.inl ⟨Nat.le_refl _, _, Blk.new w #[.pointer none, .slice none 0 0] _, ⟨rfl, Or.inl ⟨rfl, rfl⟩⟩, by simp [Value.ownBlock]⟩
/-- All that lay below is as it was. -/
theorem Mod.up {w0 w w' : World} {B : Nat} (h : Mod [] w0 w) (hb : Below B w w') (hB : w0.heap.size ≤ B) : Mod [] w0 w' :=
  ⟨hb.os.trans h.os, hb.tape.trans h.tape, hb.output.trans h.output, Nat.le_trans h.size hb.size, fun k hk _ => (hb.block k (by omega)).trans (h.block k hk (by simp))⟩
theorem Blk.below {w w' : World} {b B : Nat} {c : Array Value} {T : TypeId} (h : Blk w b c T) (hb : Below B w w') (hB : b < B) : Blk w' b c T := by
  unfold Blk at h ⊢
  exact (hb.block b hB).trans h

theorem bld_byte (w : World) (b : Nat) (l : List UInt8) (x : UInt8) (h : Bld b l w) (hl : l.length + 1 ≤ 140737488355328) :
    Calls Tryz.prog 96 #[.pointer (some ⟨b, 0, none⟩), .int .u8 (x.toNat : Int)] w fun e w' => e = .returned .nilIface ∧ Bld b (l ++ [x]) w' ∧ Below b w w' := by
  refine (Tryz.Builder_WriteByte_k b b (Lib.byteCells l) x.toNat w h (by simpa [Lib.byteCells] using hl) (by have := h.lt; omega)).mono ?_
  rintro e w' ⟨rfl, h1, h2, _⟩
  refine ⟨rfl, Or.inr ?_, h2⟩
  simpa [Lib.byteCells] using h1
theorem bld_str (w : World) (b : Nat) (l : List UInt8) (s : ByteArray) (h : Bld b l w) (hl : l.length + s.size ≤ 140737488355328) :
    Calls Tryz.prog 29 #[.pointer (some ⟨b, 0, none⟩), .string s] w fun e w' => e = .returned (.tuple #[.int .i64 s.size, .nilIface]) ∧ Bld b (l ++ s.data.toList) w' ∧ Below b w w' := by
  refine (Tryz.Builder_WriteString_k b b (Lib.byteCells l) s w h (by simpa [Lib.byteCells] using hl) (by have := h.lt; omega)).mono ?_
  rintro e w' ⟨rfl, h1, h2, _⟩
  refine ⟨rfl, Or.inr ?_, h2⟩
  simpa [Lib.byteCells, Lib.strCells] using h1
theorem bld_out (w : World) (b : Nat) (l : List UInt8) (h : Bld b l w) :
    Calls Tryz.prog 30 #[.pointer (some ⟨b, 0, none⟩)] w fun e w' => e = .returned (.string ⟨l.toArray⟩) ∧ Bld b l w' ∧ Below b w w' := by
  refine (Tryz.Builder_String_any_k b b l w h (by have := h.lt; omega)).mono ?_
  rintro e w' ⟨rfl, h1, h2, _⟩
  exact ⟨rfl, h1, h2⟩
end
end Go.Proofs.YtibhkldnimfnkaaGreatDoor

/- Script: where a blank stands (strings.IndexAny, at whatever text). -/
namespace Go.Proofs.YtibhkldnimfnkaaGreatDoor
section
set_option linter.unusedVariables false
set_option linter.unusedSimpArgs false
set_option linter.unusedSectionVars false
open Go.RowKit

abbrev blanks : ByteArray := ⟨#[32, 9]⟩
theorem get_lt (s : ByteArray) (i : Nat) (h : i < s.size) : s.get! i = s[i]'h := by
  cases s with
  | mk d => have hd : i < d.size := h; simp [ByteArray.get!, hd]; rfl
/-- What is read at a byte that is none of ASCII's: none of the bytes of it is. -/
theorem dec_high (s : ByteArray) (pos : Nat) (h : pos < s.size) (ha : 128 ≤ (s[pos]'h).toNat) :
    128 ≤ (Utf8.decode s pos).1 ∧ Utf8.valid ((Utf8.decode s pos).1 : Int) = true ∧ 1 ≤ (Utf8.decode s pos).2 ∧ pos + (Utf8.decode s pos).2 ≤ s.size ∧ ∀ j (hj : j < s.size), pos ≤ j → j < pos + (Utf8.decode s pos).2 → 128 ≤ (s[j]'hj).toNat := by
  have hb0 : (s.get! pos).toNat = (s[pos]'h).toNat := by rw [get_lt s pos h]
  have cont : ∀ k, (decide (pos + k < s.size) && (s.get! (pos + k)).toNat / 64 == 2) = true → ∃ hj : pos + k < s.size, 128 ≤ (s[pos + k]'hj).toNat := by
    intro k hk
    simp only [Bool.and_eq_true, decide_eq_true_eq, beq_iff_eq] at hk
    refine ⟨hk.1, ?_⟩
    have := hk.2
    rw [get_lt s _ hk.1] at this
    omega
  have err : 128 ≤ (65533 : Nat) ∧ Utf8.valid ((65533 : Nat) : Int) = true ∧ 1 ≤ 1 ∧ pos + 1 ≤ s.size ∧ ∀ j (hj : j < s.size), pos ≤ j → j < pos + 1 → 128 ≤ (s[j]'hj).toNat := by
    refine ⟨by decide, by decide, by omega, by omega, fun j hj h1 h2 => ?_⟩
    obtain rfl : j = pos := by omega
    exact ha
  obtain ⟨r, k, hd⟩ : ∃ r k, Utf8.decode s pos = (r, k) := ⟨_, _, rfl⟩
  rw [hd]
  unfold Utf8.decode at hd
  simp only [Nat.add_zero] at hd
  split at hd
  · omega
  · split at hd
    · rename_i h1 h2
      simp only [Bool.and_eq_true] at h2
      obtain ⟨g1, c1⟩ := cont 1 (by simpa using h2.2)
      split at hd
      · rename_i h3
        simp only [Prod.mk.injEq] at hd
        obtain ⟨rfl, rfl⟩ := hd
        refine ⟨h3, ?_, by omega, by omega, fun j hj q1 q2 => ?_⟩
        · simp only [Utf8.valid]; simp; omega
        · rcases (by omega : j = pos ∨ j = pos + 1) with rfl | rfl
          · exact ha
          · exact c1
      · simp only [Prod.mk.injEq, Utf8.runeError] at hd; obtain ⟨rfl, rfl⟩ := hd; exact err
    · split at hd
      · rename_i h1 h2 h3
        simp only [Bool.and_eq_true] at h3
        obtain ⟨g1, c1⟩ := cont 1 (by simpa using h3.1.2)
        obtain ⟨g2, c2⟩ := cont 2 (by simpa using h3.2)
        split at hd
        · rename_i h4
          simp only [Bool.and_eq_true, decide_eq_true_eq] at h4
          simp only [Prod.mk.injEq] at hd
          obtain ⟨rfl, rfl⟩ := hd
          refine ⟨by omega, h4.2, by omega, by omega, fun j hj q1 q2 => ?_⟩
          rcases (by omega : j = pos ∨ j = pos + 1 ∨ j = pos + 2) with rfl | rfl | rfl
          · exact ha
          · exact c1
          · exact c2
        · simp only [Prod.mk.injEq, Utf8.runeError] at hd; obtain ⟨rfl, rfl⟩ := hd; exact err
      · split at hd
        · rename_i h1 h2 h3 h4
          simp only [Bool.and_eq_true] at h4
          obtain ⟨g1, c1⟩ := cont 1 (by simpa using h4.1.1.2)
          obtain ⟨g2, c2⟩ := cont 2 (by simpa using h4.1.2)
          obtain ⟨g3, c3⟩ := cont 3 (by simpa using h4.2)
          split at hd
          · rename_i h5
            simp only [Bool.and_eq_true, decide_eq_true_eq] at h5
            simp only [Prod.mk.injEq] at hd
            obtain ⟨rfl, rfl⟩ := hd
            refine ⟨by omega, h5.2, by omega, by omega, fun j hj q1 q2 => ?_⟩
            rcases (by omega : j = pos ∨ j = pos + 1 ∨ j = pos + 2 ∨ j = pos + 3) with rfl | rfl | rfl | rfl
            · exact ha
            · exact c1
            · exact c2
            · exact c3
          · simp only [Prod.mk.injEq, Utf8.runeError] at hd; obtain ⟨rfl, rfl⟩ := hd; exact err
        · simp only [Prod.mk.injEq, Utf8.runeError] at hd; obtain ⟨rfl, rfl⟩ := hd; exact err

set_option maxRecDepth 100000 in
theorem valid_lib (r : Nat) (h : Utf8.valid (r : Int) = true) : Lib.validRune (r : Int) = true := by
  simp [Utf8.valid] at h
  simp [Lib.validRune]
  omega
theorem enc_size (r : Nat) (h : 128 ≤ r) (hv : Utf8.valid (r : Int) = true) (rs : ByteArray) (hrs : rs = Utf8.encode (r : Int)) : 2 ≤ rs.size ∧ rs.size ≤ 4 ∧ ∀ (h1 : 1 < rs.size), rs.size = 2 → 128 ≤ (rs[1]'h1).toNat := by
  unfold Utf8.encode at hrs
  dsimp only at hrs
  rw [if_pos hv, Int.toNat_natCast] at hrs
  split at hrs
  · omega
  · split at hrs
    · subst hrs
      refine ⟨by simp [ByteArray.size], by simp [ByteArray.size], fun h1 _ => ?_⟩
      show 128 ≤ (UInt8.ofNat (128 + r % 64)).toNat
      simp
      omega
    · split at hrs <;> subst hrs <;> exact ⟨by simp [ByteArray.size], by simp [ByteArray.size], fun _ h => absurd h (by simp [ByteArray.size])⟩
theorem conv_rune (r : Nat) (w : World) : (convert 21 9 (.int .i32 (r : Int))).run Tryz.prog w = .ok (.string (Utf8.encode r)) w := by
  simp [convert, go_sem, Conv.intToString]

theorem mod_iter (w : World) (s : ByteArray) (i : Nat) : Mod [] w (w.iter s i) := by
  unfold World.iter
  exact (Mod.refl [] w).alloc _

set_option maxRecDepth 100000 in
theorem rune_blank (r : Nat) (h : 128 ≤ r) (hv : Utf8.valid (r : Int) = true) (w : World) :
    Calls Tryz.prog 97 #[.string blanks, .int .i32 (r : Int)] w fun e w' => e = .returned (.int .i64 (-1)) ∧ Mod [] w w' := by
  have h1 : (0 : Int) ≤ r := by omega
  have h2 : ¬ (r : Int) < 128 := by omega
  by_cases hr : r = 65533
  · subst hr
    clear h1 h2 h hv
    go_enter Tryz.func97, Tryz.ntmps97
    go_wp2_with fail
    go_loopg [5, 6] 2 (fun g _ _ wx => ∃ i : Nat, i + g = 2 ∧ wx = w.iter blanks i)
    · exact ⟨0, rfl, rfl⟩
    · obtain ⟨i, hig, rfl⟩ := hrel
      rcases (by omega : i = 0 ∨ i = 1 ∨ i = 2) with rfl | rfl | rfl
      · have hnx := fun ty => run_next_ascii (P := Tryz.prog) w blanks 0 ty (by decide) (by decide)
        go_wp2
        go_roundg (gk - 1)
        case measure => omega
        case rel => exact ⟨1, by omega, rfl⟩
      · have hnx := fun ty => run_next_ascii (P := Tryz.prog) w blanks 1 ty (by decide) (by decide)
        go_wp2
        go_roundg (gk - 1)
        case measure => omega
        case rel => exact ⟨2, by omega, rfl⟩
      · have hnx := fun ty => run_next_end (P := Tryz.prog) w blanks 2 ty (by decide)
        go_wp2
        go_ret
        exact ⟨rfl, mod_iter _ _ _⟩
  · have hr : ((r : Int) == 65533) = false := beq_eq_false_iff_ne.2 (by omega)
    have hl := valid_lib r hv
    have hcv := conv_rune r
    obtain ⟨rs, hrs⟩ : ∃ rs, rs = Utf8.encode (r : Int) := ⟨_, rfl⟩
    obtain ⟨e1, e2, e3⟩ := enc_size r h hv rs hrs
    rw [← hrs] at hcv
    clear hrs
    go_enter Tryz.func97, Tryz.ntmps97
    go_wp2_with (go_at_call 117; refine (Tryz.utf8_ValidRune _ _).mono ?_; rintro e w' ⟨rfl, rfl⟩; rw [hl])
    have d1 : IntKind.i64.wrap ((rs.size : Int) - 1) = (rs.size : Int) - 1 := by rw [IntKind.wrap_i64]; omega
    go_step3
    by_cases hz : rs.size = 2
    · have b1 := e3 (by omega) hz
      have hb : (rs[1]'(by omega)).toNat ≠ 9 := by omega
      obtain ⟨x, hx⟩ : ∃ x, x = (rs[1]'(by omega)) := ⟨_, rfl⟩
      have hne : ((9 : Int) == (x.toNat : Int)) = false := beq_eq_false_iff_ne.2 (by rw [hx]; omega)
      have hix : ∀ w, (Instr.index 9 (.string rs) (.int .i64 1)).run Tryz.prog w = .ok (.int .u8 (x.toNat : Int)) w := by
        intro w
        rw [run_index_string w 9 rs .i64 1 Tryz.underlying9, dif_pos ⟨by omega, by omega⟩, hx]
        rfl
      have hz1 : (1 : Int) < (rs.size : Int) := by omega
      clear hx b1 e1 e2 e3 hb
      go_wp2
      go_loopg [9, 10] 1 (fun g p q wx => p = .int .i64 1 ∧ wx = w')
      · exact ⟨rfl, rfl⟩
      · obtain ⟨rfl, rfl⟩ := hrel
        go_wp2
        go_step3
        clear d1 hcv hl hr h hv h1
        go_wp2
        have hb1 : (((blanks[1]'(by decide)).toNat : Int) != (x.toNat : Int)) = true := by
          show (!((9 : Int) == (x.toNat : Int))) = true
          rw [hne]; rfl
        go_quiet (fail)
        go_wp2_with fail
        have hsl : ∀ w, (Instr.slice 9 (.string blanks) (some (.int .i64 2)) none none).run Tryz.prog w = .ok (.string ⟨#[]⟩) w := fun w => by kernel_rfl
        have hw2 : IntKind.i64.wrap 2 = 2 := by decide
        obtain ⟨w2, hw2'⟩ : ∃ w2, w2 = wr.drewN nq := ⟨_, rfl⟩
        have HM := hid ((Mod.refl [] wr).drewN nq)
        rw [← hw2'] at HM ⊢
        clear hw2'
        go_quiet (first | (go_at_call 95; refine Calls.quiet_of_same (Tryz.strings_IndexByte _ _ _)))
        go_wp2
        simp only [Exit.noGoto_ret, Exit.inBlock, Exit.then]
        go_ret
        exact ⟨rfl, HM.out.drewN _⟩
    · obtain ⟨k, hk⟩ : ∃ k : Int, k = (rs.size : Int) - 1 := ⟨_, rfl⟩
      rw [← hk] at d1
      have d1 : IntKind.i64.wrap ((rs.size : Int) - 1) = k := by rw [← d1, hk]
      have g1 : ¬ k < 2 := by omega
      clear e1 e2 e3 hz hk
      go_wp2
      go_loopg [9, 10] 1 (fun g p q wx => p = .int .i64 k ∧ wx = w')
      · exact ⟨rfl, rfl⟩
      · obtain ⟨rfl, rfl⟩ := hrel
        clear d1 hcv hl hr h hv h1
        go_wp2
        rw [Exit.noGoto_ret]
        go_ret
        exact ⟨rfl, Mod.refl _ _⟩

theorem mod_iterAt {w0 w : World} (h : Mod [] w0 w) (k : Nat) (s : ByteArray) (i : Nat) (hk : w0.heap.size ≤ k) : Mod [] w0 (w.iterAt k s i) :=
  ⟨h.os, h.tape, h.output, by simp [World.iterAt]; exact h.size, fun j hj _ => by
    refine Eq.trans ?_ (h.block j hj (by simp))
    simp only [World.iterAt]
    rw [Array.getElem?_setIfInBounds, if_neg (by omega)]⟩
/-- Where the first blank stands. -/
def blankAt (l : Bs) : Int := Lib.indexAny l [32, 9]
theorem blank_in (x : UInt8) : ([32, 9] : List UInt8).contains x = isBlank x := by
  unfold isBlank
  rw [List.contains_cons, List.contains_cons, List.contains_nil, Bool.or_false]

set_option maxRecDepth 100000 in
set_option maxHeartbeats 2000000 in
theorem any_c (s : ByteArray) (w : World) (hs : s.size < 4294967281) :
    Calls Tryz.prog 66 #[.string s, .string blanks] w fun e w' => e = .returned (.int .i64 (blankAt s.data.toList)) ∧ Mod [] w w' := by
  by_cases h8 : 8 < s.size
  · refine (Tryz.strings_IndexAny_long (fun w => by kernel_rfl) s blanks w (by decide) h8 hs (by decide) (fun j b hj => by
      rcases j with _ | _ | j
      · simp at hj; subst hj; decide
      · simp at hj; subst hj; decide
      · simp at hj)).mono ?_
    rintro e w' ⟨rfl, rfl⟩
    exact ⟨rfl, ((Mod.refl [] w).alloc _).alloc _⟩
  · have h8z : decide ((8 : Int) < (s.size : Int)) = false := decide_eq_false (by omega)
    obtain ⟨l, hl⟩ : ∃ l, l = s.data.toList := ⟨_, rfl⟩
    have hlen : l.length = s.size := by rw [hl]; rfl
    have HL := hid hl
    rw [← hl]
    clear hl
    go_enter Tryz.func66, Tryz.ntmps66
    go_wp2_with (go_at_call 98; refine (Tryz.strings_shouldUseASCIISet _ _).mono ?_; rintro e w' ⟨rfl, hw⟩; rw [hw, h8z])
    clear h8z
    obtain ⟨B, hB⟩ : ∃ B, B = w.heap.size := ⟨_, rfl⟩
    have HB := hid hB
    rw [← hB]
    clear hB
    go_loopg [9, 10] s.size (fun g _ _ wx => ∃ i : Nat, i + g = s.size ∧ Hid (wx.heap[B]? = some (.stringIter s i)) ∧ Hid (Mod [] w wx) ∧ Hid (Lib.NoAny l [32, 9] i))
    · exact ⟨0, by omega, by rw [HB.out]; exact World.iter_heap _ _ _, mod_iter _ _ _, Lib.NoAny.zero _ _⟩
    · obtain ⟨i, hig, hit, hM, hno⟩ := hrel
      by_cases hi : i < s.size
      · obtain ⟨x, hx⟩ : ∃ x : UInt8, s[i]'hi = x := ⟨_, rfl⟩
        have hxl : l[i]? = some x := by rw [HL.out, ← hx]; exact Lib.data_getElem? s i hi
        by_cases ha : x.toNat < 128
        · have hnx := fun ty => Lib.run_next_ascii_at (P := Tryz.prog) wr B s i ty hit.out hi (by rw [hx]; exact ha)
          rw [hx] at hnx
          have hcon := Lib.contains_iff_indexByte [32, 9] x
          have hit2 := hid (Lib.iterAt_heap wr B s i (i + 1) hit.out)
          have hM2 := hid (mod_iterAt hM.out B s (i + 1) (by rw [HB.out]; exact Nat.le_refl _))
          have HX := hid hxl
          have hback : ((x.toNat : Int)).toNat.toUInt8 = x := by simp
          clear hxl hx hit hM
          generalize wr.iterAt B s (i + 1) = w2 at *
          have HR := hid (Tryz.strings_IndexRune_ascii blanks x.toNat w2 (by omega) (by omega))
          rw [hback] at HR
          clear hback
          cases hin : ([32, 9] : List UInt8).contains x
          · rw [hin] at hcon
            have hlt : ¬ ((0 : Int) ≤ Lib.indexByte [32, 9] x) := of_decide_eq_false hcon.symm
            have HN := hid (hno.out.succ HX.out hin)
            clear hcon hin
            go_wp2_with fail
            refine HR.out.mono ?_
            rintro e w' ⟨rfl, rfl⟩
            go_wp2_with fail
            go_roundg (gk - 1)
            case measure => omega
            case rel => exact ⟨i + 1, by omega, hit2, hM2, HN⟩
          · rw [hin] at hcon
            have hge : (0 : Int) ≤ Lib.indexByte [32, 9] x := of_decide_eq_true hcon.symm
            have HN := hid (Lib.indexAny_hit hno.out HX.out hin)
            clear hcon hin
            go_wp2_with fail
            refine HR.out.mono ?_
            rintro e w' ⟨rfl, rfl⟩
            go_wp2_with fail
            go_ret
            exact ⟨by unfold blankAt; rw [HN.out]; rfl, hM2.out⟩
        · have hnx := fun ty => Lib.run_next_any_at (P := Tryz.prog) wr B s i ty hit.out hi
          obtain ⟨d1, d2, d3, d4, d5⟩ := dec_high s i hi (by rw [hx]; omega)
          have hit2 := hid (Lib.iterAt_heap wr B s i (i + (Utf8.decode s i).2) hit.out)
          have hM2 := hid (mod_iterAt hM.out B s (i + (Utf8.decode s i).2) (by rw [HB.out]; exact Nat.le_refl _))
          generalize (Utf8.decode s i).1 = r at *
          generalize (Utf8.decode s i).2 = k at *
          have HN : Hid (Lib.NoAny l [32, 9] (i + k)) := by
            intro j b hj hb
            rcases Nat.lt_or_ge j i with h | h
            · exact hno.out j b h hb
            · have hjs : j < s.size := by omega
              have := d5 j hjs h hj
              have e : l[j]? = some (s[j]'hjs) := by rw [HL.out]; exact Lib.data_getElem? s j hjs
              rw [e] at hb
              cases hb
              rw [blank_in]
              unfold isBlank
              simp only [Bool.or_eq_false_iff, beq_eq_false_iff_ne]
              refine ⟨fun h => ?_, fun h => ?_⟩ <;> (rw [h] at this; exact absurd this (by decide))
          clear hxl hx hit hM d5 ha
          generalize wr.iterAt B s (i + k) = w2 at *
          have HR := hid (rune_blank r d1 d2 w2)
          clear d1 d2
          go_wp2_with fail
          refine HR.out.mono ?_
          rintro e w3 ⟨rfl, hm⟩
          have hit3 : Hid (w3.heap[B]? = some (.stringIter s (i + k))) := (hm.block B (Array.getElem?_eq_some_iff.1 hit2.out).1 (by simp)).trans hit2.out
          have hM3 := hid (hM2.out.tr hm)
          clear hm
          go_wp2_with fail
          go_roundg (gk - k)
          case measure => omega
          case rel => exact ⟨i + k, by omega, hit3, hM3, HN⟩
      · have hnx := fun ty => Lib.run_next_end_at (P := Tryz.prog) wr B s i ty hit.out hi
        obtain rfl : i = s.size := by omega
        have HN := hid (Lib.indexAny_none (s := l) (chars := [32, 9]) (by rw [hlen]; exact hno.out))
        clear hlen
        go_wp2_with fail
        go_ret
        exact ⟨by unfold blankAt; rw [HN.out]; rfl, hM.out⟩

theorem blankAt_nonneg (l : Bs) : decide ((0 : Int) ≤ blankAt l) = l.any isBlank := by
  unfold blankAt
  induction l with
  | nil => rfl
  | cons c l ih =>
    have h1 := Lib.indexAny_ge [32, 9] l
    rw [Lib.indexAny, blank_in, List.any_cons]
    cases h : isBlank c
    · rw [if_neg (by simp), Bool.false_or, ← ih]
      split
      · rename_i h2
        have := beq_iff_eq.1 h2
        rw [this]
      · rename_i h2
        have : Lib.indexAny l [32, 9] ≠ -1 := fun e => h2 (beq_iff_eq.2 e)
        simp only [decide_eq_decide]
        omega
    · rw [if_pos rfl]; rfl
/-- The first blank stands behind what has none. -/
theorem blankAt_eq (l : Bs) (h : l.any isBlank = true) : blankAt l = ((l.takeWhile (fun c => !isBlank c)).length : Nat) := by
  unfold blankAt
  induction l with
  | nil => cases h
  | cons c l ih =>
    rw [Lib.indexAny, blank_in]
    cases hc : isBlank c
    · rw [List.any_cons, hc, Bool.false_or] at h
      have := ih h
      rw [if_neg (by simp), this, if_neg (by simp), List.takeWhile_cons, hc]
      simp
    · rw [if_pos rfl, List.takeWhile_cons, hc]; rfl
set_option maxRecDepth 100000 in
theorem contains_c (s : ByteArray) (w : World) (hs : s.size < 4294967281) :
    Calls Tryz.prog 94 #[.string s, .string blanks] w fun e w' => e = .returned (.bool (s.data.toList.any isBlank)) ∧ Mod [] w w' := by
  rw [← blankAt_nonneg]
  have HC := hid (any_c s w hs)
  clear hs
  go_enter Tryz.func94, Tryz.ntmps94
  go_wp2_with fail
  refine HC.out.mono ?_
  rintro e w' ⟨rfl, hm⟩
  have HM := hid hm
  clear hm
  go_wp2
  go_ret
  exact ⟨rfl, HM.out⟩
end
end Go.Proofs.YtibhkldnimfnkaaGreatDoor

/- Script: a quoted word. -/
namespace Go.Proofs.YtibhkldnimfnkaaGreatDoor
section
set_option linter.unusedVariables false
set_option linter.unusedSimpArgs false
set_option linter.unusedSectionVars false
open Go.RowKit

abbrev mt0 : ByteArray := ⟨#[]⟩
/-- The bytes of a text. -/
abbrev byt (s : ByteArray) : Bs := s.data.toList
abbrev str (l : Bs) : ByteArray := ⟨l.toArray⟩
theorem byt_str (l : Bs) : byt (str l) = l := rfl
theorem str_byt (s : ByteArray) : str (byt s) = s := by cases s; rfl
theorem byt_len (s : ByteArray) : (byt s).length = s.size := by cases s; rfl
theorem str_len (l : Bs) : (str l).size = l.length := by simp [ByteArray.size]
theorem byt_at (s : ByteArray) (i : Nat) (h : i < s.size) : (byt s)[i]? = some (s[i]'h) := Lib.data_getElem? s i h

/-- A byte of a text. -/
theorem run_at (s : ByteArray) (i : Nat) (c : UInt8) (h : (byt s)[i]? = some c) (w : World) : (Instr.index 9 (.string s) (.int .i64 (i : Int))).run Tryz.prog w = .ok (.int .u8 (c.toNat : Int)) w := by
  have hi : i < s.size := by rw [← byt_len]; exact (List.getElem?_eq_some_iff.1 h).1
  rw [run_index_string w 9 s .i64 i Tryz.underlying9, dif_pos ⟨by omega, by omega⟩]
  have := byt_at s i hi
  rw [h] at this
  cases this
  rfl
/-- What follows in a text. -/
theorem run_from (s : ByteArray) (i : Nat) (h : i ≤ s.size) (w : World) : (Instr.slice 9 (.string s) (some (.int .i64 (i : Int))) none none).run Tryz.prog w = .ok (.string (str ((byt s).drop i))) w := by
  rw [run_slice_string_from_if w 9 s .i64 i Tryz.underlying9, if_pos ⟨by omega, by omega⟩]
  congr 1
  congr 1
  have e : (s.extract i s.size).data.toList = (byt s).drop i := Lib.extract_to_end s i
  rw [← e]
  show s.extract (i : Int).toNat s.size = str (byt (s.extract i s.size))
  rw [str_byt, Int.toNat_natCast]
/-- The beginning of a text. -/
theorem run_to (s : ByteArray) (i : Nat) (h : i ≤ s.size) (w : World) : (Instr.slice 9 (.string s) none (some (.int .i64 (i : Int))) none).run Tryz.prog w = .ok (.string (str ((byt s).take i))) w := by
  rw [run_slice_string_to_if w 9 s .i64 i Tryz.underlying9, if_pos ⟨by omega, by omega⟩]
  congr 1
  congr 1
  have e : (s.extract 0 i).data.toList = (byt s).take i := Lib.extract_from_zero s i
  rw [← e]
  show s.extract 0 (i : Int).toNat = str (byt (s.extract 0 i))
  rw [str_byt, Int.toNat_natCast]

theorem ne_u8 {c k : UInt8} (h : ¬ c = k) : ((c.toNat : Int) == (k.toNat : Int)) = false :=
  beq_eq_false_iff_ne.2 (fun e => h (UInt8.toNat_inj.1 (by omega)))
theorem wd_info : (Tryz.prog.info? 87).map (·.size) = some 2 := by kernel_rfl
set_option maxRecDepth 100000 in
theorem res_wd2 {fn : Func} {p u : Tmp} (h : fn.results = #[.cell p 87, .tmp u]) (tmps : Array Value) (w : World) (g : Nat) (x y : Value) (hp : tmps.getD p undef = .pointer (some ⟨g, 0, none⟩)) (hg : Blk w g #[x, y] 87) :
    (results fn tmps).run Tryz.prog w = .ok (.tuple #[.agg #[x, y], tmps.getD u undef]) w := by
  rw [results_cell_tmp h, hp]
  show ((loadVar 87 ⟨g, 0, none⟩).run Tryz.prog w).andThen _ = _
  rw [run_loadVar_row w g _ _ #[x, y] (0, 0) _ hg Tryz.underlying87 rfl wd_info]
  rfl
theorem unesc_at (d : UInt8) : (∃ (k : Nat) (x : UInt8), k < 3 ∧ Lib.indexByte [34, 92, 110] d = k ∧ unesc d = some x ∧ (byt ⟨#[34, 92, 10]⟩)[k]? = some x) ∨ (Lib.indexByte [34, 92, 110] d = -1 ∧ unesc d = none) := by
  by_cases h1 : d = 34
  · subst h1; exact Or.inl ⟨0, 34, by decide, by decide, by decide, by decide⟩
  · by_cases h2 : d = 92
    · subst h2; exact Or.inl ⟨1, 92, by decide, by decide, by decide, by decide⟩
    · by_cases h3 : d = 110
      · subst h3; exact Or.inl ⟨2, 10, by decide, by decide, by decide, by decide⟩
      · refine Or.inr ⟨?_, ?_⟩
        · have : Lib.indexByte [34, 92, 110] d = -1 := by
            simp [Lib.indexByte, Ne.symm h1, Ne.symm h2, Ne.symm h3, h1, h2, h3]
          exact this
        · simp [unesc, h1, h2, h3]
/-- What a quoted word comes to. -/
def QuG (o : Option (Bs × Bs)) (w : World) (e : Ending) (w' : World) : Prop :=
  Mod [] w w' ∧ match o with | none => e = .panicked (pan 4) | some (t, r) => e = .returned (.tuple #[.agg #[.string (str t), .bool true], .string (str r)])
set_option maxRecDepth 100000 in
set_option maxHeartbeats 4000000 in
theorem quoted_c (s : ByteArray) (w : World) (h0 : 0 < s.size) (hs : s.size < 4294967000) (o : Option (Bs × Bs)) (ho : quotedL ((byt s).drop 1) = o) :
    Calls Tryz.prog 65 #[.string s] w (QuG o w) := by
  have HO := hid ho
  clear ho
  have hmf : ∀ (fn : Fn) (first cap : Array Value) (w : World), (Instr.makeFunc fn first cap).run Tryz.prog w = .ok (.func fn first cap) w := fun _ _ _ _ => rfl
  have HK := hid ((Blk.new w #[.string mt0, .bool false] 87).alloc (.cells #[.pointer none, .slice none 0 0] 70))
  have HB := hid (Bld.start (w.alloc (.cells #[.string mt0, .bool false] 87)))
  have HM := hid (((Mod.refl [] w).alloc (.cells #[.string mt0, .bool false] 87)).alloc (.cells #[.pointer none, .slice none 0 0] 70))
  rw [World.size_alloc] at HB
  obtain ⟨kb, hkb⟩ : ∃ kb, kb = w.heap.size := ⟨_, rfl⟩
  rw [← hkb] at HK HB
  have HKB := hid hkb
  clear hkb
  go_enter Tryz.func65, Tryz.ntmps65
  go_wp2_with fail
  rw [← HKB.out]
  go_loopg [5] (s.size - 1) (fun g p wr => ∃ (i : Nat) (acc : Bs), p = .int .i64 (i : Int) ∧ i + g = s.size ∧ 1 ≤ i ∧ Hid (o = onto acc (quotedL ((byt s).drop i))) ∧ Hid (acc.length ≤ i) ∧ Hid (Bld (kb + 1) acc wr) ∧ Hid (Blk wr kb #[.string mt0, .bool false] 87) ∧ Hid (Mod [] w wr))
  · exact ⟨1, [], rfl, by omega, by omega, by rw [onto_nil]; exact HO.out.symm, by simp [Hid], HB, HK, HM⟩
  · clear HB HK HM
    obtain ⟨i, acc, rfl, hig, hi1, HQ, HL, HB, HK, HM⟩ := hrel
    by_cases hi : i < s.size
    · have hi2 : (i : Int) < s.size := by omega
      obtain ⟨c, hc⟩ : ∃ c, (byt s)[i]? = some c := ⟨_, byt_at s i hi⟩
      have hd : (byt s).drop i = c :: (byt s).drop (i + 1) := by
        obtain ⟨h1, rfl⟩ := List.getElem?_eq_some_iff.1 hc
        exact (List.getElem_cons_drop h1).symm
      rw [hd] at HQ
      have hix := run_at s i c hc
      have hw1 : IntKind.i64.wrap ((i : Int) + 1) = (i : Int) + 1 := by rw [IntKind.wrap_i64]; omega
      clear hd hc
      by_cases c34 : c = 34
      · subst c34
        have hsl : ∀ w, (Instr.slice 9 (.string s) (some (.int .i64 ((i : Int) + 1))) none none).run Tryz.prog w = .ok (.string (str ((byt s).drop (i + 1)))) w := fun w => by
          have := run_from s (i + 1) (by omega) w
          rw [show ((i + 1 : Nat) : Int) = (i : Int) + 1 by omega] at this
          exact this
        have hQ2 := HQ.out
        rw [quotedL_q] at hQ2
        obtain ⟨r, hr⟩ : ∃ r, r = (byt s).drop (i + 1) := ⟨_, rfl⟩
        rw [← hr] at hQ2 hsl
        have HQ2 := hid hQ2
        clear hQ2 HQ hr
        have fin : ∀ (W : World) (r : Bs), o = some (acc, r) → Bld (kb + 1) acc W → Blk W kb #[.string mt0, .bool false] 87 → Mod [] w W →
            QuG o w (.returned (.tuple #[.agg #[.string (str acc), .bool true], .string (str r)])) ((W.setCell ⟨kb, 0, none⟩ (.string (str acc))).setCell ⟨kb, 1, none⟩ (.bool true)) := by
          rintro W r rfl _ _ hm
          exact ⟨(hm.setCell (p := ⟨kb, 0, none⟩) (Or.inr (by rw [← HKB.out]; exact Nat.le_refl _)) _).setCell (p := ⟨kb, 1, none⟩) (Or.inr (by rw [← HKB.out]; exact Nat.le_refl _)) _, rfl⟩
        have FIN := hid fin
        clear fin
        rcases r with _ | ⟨d, t⟩
        · have HQ3 : Hid (o = some (acc, [])) := by show _ = _; rw [HQ2.out]; simp [atEnd, onto]
          clear HQ2
          go_wp2_with fail
          refine (must_yes _).mono ?_
          rintro e w' ⟨rfl, rfl⟩
          go_wp2_with fail
          refine (bld_out _ _ acc HB.out).mono ?_
          rintro e w2 ⟨rfl, hb, hbel⟩
          have HB2 := hid hb
          have HK2 := hid (HK.out.below hbel (by omega))
          have HM2 := hid (HM.out.up hbel (by rw [← HKB.out]; omega))
          have kl := HK2.out.lt
          have f0 := HK2.out.free 0
          have f1 := HK2.out.free 1
          have g0 := HK2.out.cell 0
          have g1 := HK2.out.cell 1
          clear hb hbel HB HK HM
          go_wp2_with fail
          try simp only [Exit.inBlock, Exit.then]
          refine bodyPost_ret (res_wd2 rfl _ _ kb _ _ rfl ((HK2.out.set 0 (.string (str acc))).set 1 (.bool true))) rfl ?_
          exact FIN.out _ _ HQ3.out HB2.out HK2.out HM2.out
        · have hq : ((str (d :: t)).toList == (⟨#[]⟩ : ByteArray).toList) = false := by simp
          have hsl1 : ∀ w, (Instr.slice 9 (.string (str (d :: t))) none (some (.int .i64 1)) none).run Tryz.prog w = .ok (.string (str [d])) w := fun w => run_to (str (d :: t)) 1 (by simp [ByteArray.size]) w
          have HC := hid (contains_c (str [d]) wr (by simp [ByteArray.size]))
          have hany : (byt (str [d])).any isBlank = isBlank d := by simp
          rw [hany] at HC
          clear hany
          cases hbl : isBlank d
          · rw [hbl] at HC
            have HQ3 : Hid (o = none) := by show _ = _; rw [HQ2.out]; simp [atEnd, onto, hbl]
            clear HQ2 hbl
            go_wp2_with fail
            refine HC.out.mono ?_
            rintro e w2 ⟨rfl, hm⟩
            have HM2 := hid (HM.out.tr hm)
            clear hm HC
            go_wp2_with fail
            refine (must_no _).mono ?_
            rintro e w' ⟨rfl, rfl⟩
            refine ⟨rfl, HM2.out, ?_⟩
            rw [HQ3.out]
          · rw [hbl] at HC
            have HQ3 : Hid (o = some (acc, d :: t)) := by show _ = _; rw [HQ2.out]; simp [atEnd, onto, hbl]
            clear HQ2 hbl
            go_wp2_with fail
            refine HC.out.mono ?_
            rintro e w2 ⟨rfl, hm⟩
            have HM2 := hid (HM.out.tr hm)
            have HB2 := hid (HB.out.mod hm)
            have HK2 := hid (hm.blk HK.out (by simp))
            clear hm HC HB HK HM
            go_wp2_with fail
            refine (must_yes _).mono ?_
            rintro e w' ⟨rfl, rfl⟩
            go_wp2_with fail
            refine (bld_out _ _ acc HB2.out).mono ?_
            rintro e w3 ⟨rfl, hb, hbel⟩
            have HB3 := hid hb
            have HK3 := hid (HK2.out.below hbel (by omega))
            have HM3 := hid (HM2.out.up hbel (by rw [← HKB.out]; omega))
            have kl := HK3.out.lt
            have f0 := HK3.out.free 0
            have f1 := HK3.out.free 1
            have g0 := HK3.out.cell 0
            have g1 := HK3.out.cell 1
            clear hb hbel HB2 HK2 HM2
            go_wp2_with fail
            try simp only [Exit.inBlock, Exit.then]
            refine bodyPost_ret (res_wd2 rfl _ _ kb _ _ rfl ((HK3.out.set 0 (.string (str acc))).set 1 (.bool true))) rfl ?_
            exact FIN.out _ _ HQ3.out HB3.out HK3.out HM3.out
      · by_cases c92 : c = 92
        · subst c92
          by_cases hi3 : i + 1 < s.size
          · have hi4 : (i : Int) + 1 < s.size := by omega
            obtain ⟨d, hd⟩ : ∃ d, (byt s)[i + 1]? = some d := ⟨_, byt_at s (i + 1) hi3⟩
            have hd2 : (byt s).drop (i + 1) = d :: (byt s).drop (i + 1 + 1) := by
              obtain ⟨h1, rfl⟩ := List.getElem?_eq_some_iff.1 hd
              exact (List.getElem_cons_drop h1).symm
            have hix2 : ∀ w, (Instr.index 9 (.string s) (.int .i64 ((i : Int) + 1))).run Tryz.prog w = .ok (.int .u8 (d.toNat : Int)) w := fun w => by
              have := run_at s (i + 1) d hd w
              rw [show ((i + 1 : Nat) : Int) = (i : Int) + 1 by omega] at this
              exact this
            have hQ2 := HQ.out
            rw [hd2, quotedL_b] at hQ2
            have hw2 : IntKind.i64.wrap ((i : Int) + 1 + 1) = (i : Int) + 1 + 1 := by rw [IntKind.wrap_i64]; omega
            have HI := hid (Tryz.strings_IndexByte ⟨#[34, 92, 110]⟩ (d.toNat : Int) wr)
            have hback : ((d.toNat : Int)).toNat.toUInt8 = d := by simp
            rw [hback] at HI
            clear hback hd hd2 HQ
            rcases unesc_at d with ⟨k, x, hk, h1, h2, h3⟩ | ⟨h1, h2⟩
            · rw [h2] at hQ2
              have HQ2 : Hid (o = onto (acc ++ [x]) (quotedL ((byt s).drop (i + 1 + 1)))) := by
                show _ = _
                rw [hQ2, onto_onto]
              have hix3 := run_at _ k x h3
              have hk0 : ¬ (k : Int) < 0 := by omega
              have hk1 : (0 : Int) ≤ (k : Int) := by omega
              rw [show Lib.indexByte (ByteArray.mk #[34, 92, 110]).data.toList d = (k : Int) from h1] at HI
              have HW := hid (bld_byte wr (kb + 1) acc x HB.out (by have := HL.out; omega))
              clear h1 h2 h3 hQ2 hk
              go_wp2_with fail
              refine (must_yes _).mono ?_
              rintro e w' ⟨rfl, rfl⟩
              go_wp2_with fail
              refine HI.out.mono ?_
              rintro e w' ⟨rfl, rfl⟩
              go_wp2_with fail
              refine (must_yes _).mono ?_
              rintro e w' ⟨rfl, rfl⟩
              go_wp2_with fail
              refine HW.out.mono ?_
              rintro e w2 ⟨rfl, hb, hbel⟩
              have HB2 := hid hb
              have HK2 := hid (HK.out.below hbel (by omega))
              have HM2 := hid (HM.out.up hbel (by rw [← HKB.out]; omega))
              clear hb hbel HB HK HM HW HI
              go_wp2
              go_roundg (gk - 2)
              case measure => omega
              case rel => exact ⟨i + 1 + 1, acc ++ [x], by go_num, by omega, by omega, HQ2, by have := HL.out; simp [Hid]; omega, HB2, HK2, HM2⟩
            · rw [h2] at hQ2
              have HQ2 : Hid (o = none) := hQ2
              rw [show Lib.indexByte (ByteArray.mk #[34, 92, 110]).data.toList d = -1 from h1] at HI
              clear h1 h2 hQ2
              go_wp2_with fail
              refine (must_yes _).mono ?_
              rintro e w' ⟨rfl, rfl⟩
              go_wp2_with fail
              refine HI.out.mono ?_
              rintro e w' ⟨rfl, rfl⟩
              go_wp2_with fail
              refine (must_no _).mono ?_
              rintro e w' ⟨rfl, rfl⟩
              refine ⟨rfl, HM.out, ?_⟩
              rw [HQ2.out]
          · have hi4 : ¬ (i : Int) + 1 < s.size := by omega
            have HQ2 : Hid (o = none) := by
              show _ = _
              rw [HQ.out, List.drop_of_length_le (by rw [byt_len]; omega), quotedL_b0]
              rfl
            clear HQ
            go_wp2_with fail
            refine (must_no _).mono ?_
            rintro e w' ⟨rfl, rfl⟩
            refine ⟨rfl, HM.out, ?_⟩
            rw [HQ2.out]
        · have e34 : ((c.toNat : Int) == 34) = false := ne_u8 c34
          have e92 : ((c.toNat : Int) == 92) = false := ne_u8 c92
          have HQ2 : Hid (o = onto (acc ++ [c]) (quotedL ((byt s).drop (i + 1)))) := by
            show _ = _
            rw [HQ.out, quotedL_c _ c34 c92, onto_onto]
          have HW := hid (bld_byte wr (kb + 1) acc c HB.out (by have := HL.out; omega))
          clear c34 c92 HQ
          go_wp2_with fail
          refine HW.out.mono ?_
          rintro e w2 ⟨rfl, hb, hbel⟩
          have HB2 := hid hb
          have HK2 := hid (HK.out.below hbel (by omega))
          have HM2 := hid (HM.out.up hbel (by rw [← HKB.out]; omega))
          clear hb hbel HB HK HM HW
          go_wp2
          go_roundg (gk - 1)
          case measure => omega
          case rel => exact ⟨i + 1, acc ++ [c], by go_num, by omega, by omega, HQ2, by have := HL.out; simp [Hid]; omega, HB2, HK2, HM2⟩
    · have hi2 : ¬ (i : Int) < s.size := by omega
      have HQ2 : Hid (o = none) := by
        show _ = _
        rw [HQ.out, List.drop_of_length_le (by rw [byt_len]; omega)]
        rfl
      clear HQ hi
      go_wp2_with fail
      refine (must_no _).mono ?_
      rintro e w' ⟨rfl, rfl⟩
      refine ⟨rfl, HM.out, ?_⟩
      rw [HQ2.out]
end
end Go.Proofs.YtibhkldnimfnkaaGreatDoor

/- Script: the words of a line, one by one. -/
namespace Go.Proofs.YtibhkldnimfnkaaGreatDoor
section
set_option linter.unusedVariables false
set_option linter.unusedSimpArgs false
set_option linter.unusedSectionVars false
open Go.RowKit Go.Shelf
attribute [local go_sem] Oper.semAt_some

theorem quotedL_len : ∀ (n : Nat) (s : Bs), s.length ≤ n → ∀ t r, quotedL s = some (t, r) → r.length < s.length
  | 0, s, h, t, r, e => by
    have : s = [] := List.length_eq_zero_iff.1 (by omega)
    subst this
    cases e
  | n + 1, [], _, t, r, e => by cases e
  | n + 1, c :: s, h, t, r, e => by
    simp only [List.length_cons] at h
    by_cases h1 : c = 34
    · subst h1
      rw [quotedL_q] at e
      split at e
      · cases e; simp
      · cases e
    · by_cases h2 : c = 92
      · subst h2
        cases s with
        | nil => rw [quotedL_b0] at e; cases e
        | cons d s =>
          rw [quotedL_b] at e
          cases hd : unesc d with
          | none => rw [hd] at e; cases e
          | some x =>
            rw [hd] at e
            simp only at e
            cases hq : quotedL s with
            | none => rw [hq] at e; cases e
            | some p =>
              obtain ⟨t', r'⟩ := p
              rw [hq] at e
              simp only [onto, Option.some.injEq, Prod.mk.injEq] at e
              obtain ⟨_, rfl⟩ := e
              have := quotedL_len n s (by simp at h; omega) t' r' hq
              simp; omega
      · rw [quotedL_c _ h1 h2] at e
        cases hq : quotedL s with
        | none => rw [hq] at e; cases e
        | some p =>
          obtain ⟨t', r'⟩ := p
          rw [hq] at e
          simp only [onto, Option.some.injEq, Prod.mk.injEq] at e
          obtain ⟨_, rfl⟩ := e
          have := quotedL_len n s (by omega) t' r' hq
          simp; omega
theorem drop_len (p : UInt8 → Bool) : ∀ s : Bs, (s.dropWhile p).length ≤ s.length
  | [] => by simp
  | c :: s => by
    rw [List.dropWhile_cons]
    split
    · have := drop_len p s; simp; omega
    · exact Nat.le_refl _
theorem drop_head (p : UInt8 → Bool) : ∀ (s : Bs) (c : UInt8) (t : Bs), s.dropWhile p = c :: t → p c = false
  | [], c, t, h => by simp at h
  | d :: s, c, t, h => by
    rw [List.dropWhile_cons] at h
    split at h
    · exact drop_head p s c t h
    · rename_i hp
      cases h
      simpa using hp
/-- More steps than bytes are all alike. -/
theorem wordsN_eq : ∀ (n m : Nat) (s : Bs), s.length < n → s.length < m → wordsN n s = wordsN m s
  | 0, _, s, h, _ => by omega
  | _, 0, s, _, h => by omega
  | n + 1, m + 1, s, hn, hm => by
    unfold wordsN
    have hd := drop_len isBlank s
    cases e : s.dropWhile isBlank with
    | nil => rfl
    | cons c t =>
      rw [e] at hd
      simp only [List.length_cons] at hd
      simp only
      split
      · rfl
      · split
        · cases hq : quotedL t with
          | none => rfl
          | some p =>
            obtain ⟨x, r⟩ := p
            have := quotedL_len _ t (Nat.le_refl _) x r hq
            simp only
            rw [wordsN_eq n m r (by omega) (by omega)]
        · have hb := drop_head isBlank s c t e
          have hl : ((c :: t).dropWhile fun c => !isBlank c).length ≤ t.length := by
            rw [List.dropWhile_cons, hb]
            exact drop_len _ t
          rw [wordsN_eq n m _ (by omega) (by omega)]
/-- One word after the other. -/
theorem wordsL_eq (s : Bs) : wordsL s = match s.dropWhile isBlank with
    | [] => ([], true)
    | c :: t =>
      if c == 35 then ([], true)
      else if c == 34 then
        match quotedL t with
        | none => ([], false)
        | some (x, r) => (⟨x, true⟩ :: (wordsL r).1, (wordsL r).2)
      else (⟨(c :: t).takeWhile (fun c => !isBlank c), false⟩ :: (wordsL ((c :: t).dropWhile (fun c => !isBlank c))).1, (wordsL ((c :: t).dropWhile (fun c => !isBlank c))).2) := by
  unfold wordsL
  rw [wordsN]
  have hd := drop_len isBlank s
  cases e : s.dropWhile isBlank with
  | nil => rfl
  | cons c t =>
    rw [e] at hd
    simp only [List.length_cons] at hd
    simp only
    split
    · rfl
    · split
      · cases hq : quotedL t with
        | none => rfl
        | some p =>
          obtain ⟨x, r⟩ := p
          have := quotedL_len _ t (Nat.le_refl _) x r hq
          simp only
          rw [wordsN_eq s.length (r.length + 1) r (by omega) (by omega)]
      · have hb := drop_head isBlank s c t e
        have hl : ((c :: t).dropWhile fun c => !isBlank c).length ≤ t.length := by
          rw [List.dropWhile_cons, hb]
          exact drop_len _ t
        rw [wordsN_eq s.length (((c :: t).dropWhile fun c => !isBlank c).length + 1) _ (by omega) (by omega)]

/-- strings.TrimLeft, of blanks. -/
theorem trim_c (l : Bs) (w : World) : Calls Tryz.prog 64 #[.string (str l), .string blanks] w fun e w' => e = .returned (.string (str (l.dropWhile isBlank))) ∧ Mod [] w w' := by
  refine (Any.strings_TrimLeft_laid Tryz.lays161 (by kernel_rfl) (str l) blanks w (by decide) (fun j b hj => by
      rcases j with _ | _ | j
      · simp at hj; subst hj; decide
      · simp at hj; subst hj; decide
      · simp at hj)).mono ?_
  rintro e w' ⟨rfl, hb⟩
  refine ⟨?_, Mod.of_below hb⟩
  have : Lib.trimLeftS l [32, 9] = l.dropWhile isBlank := by
    unfold Lib.trimLeftS
    congr 1
    funext c
    exact blank_in c
  show Ending.returned (.string ⟨(Lib.trimLeftS l [32, 9]).toArray⟩) = _
  rw [this]

abbrev wdV (x : Wd) : Value := .agg #[.string (str x.text), .bool x.quoted]
def wdC (x : Wd) : List Value := [.string (str x.text), .bool x.quoted]
theorem wd_lays : Lays 2 wdC := ⟨fun _ => rfl, fun x u hu => by simp [wdC] at hu; rcases hu with rfl | rfl <;> rfl, by decide⟩
/-- The end of a line's words. -/
abbrev endE (z : Bool) : Ending := if z then .returned (.tuple #[]) else .panicked (pan 4)

theorem take_app (l : Bs) : (l ++ [32]).takeWhile (fun c => !isBlank c) = l.takeWhile (fun c => !isBlank c) := by
  induction l with
  | nil => rfl
  | cons c l ih =>
    rw [List.cons_append, List.takeWhile_cons, List.takeWhile_cons, ih]
theorem take_len (p : UInt8 → Bool) (l : Bs) : l.take (l.takeWhile p).length = l.takeWhile p ∧ l.drop (l.takeWhile p).length = l.dropWhile p := by
  induction l with
  | nil => exact ⟨rfl, rfl⟩
  | cons c l ih =>
    rw [List.takeWhile_cons, List.dropWhile_cons]
    split
    · exact ⟨by simp [ih.1], by simp [ih.2]⟩
    · exact ⟨rfl, rfl⟩

set_option maxRecDepth 100000 in
set_option maxHeartbeats 4000000 in
theorem words1_in (n m : Nat) (u Sb : Nat) (l : Bs) (J : List Wd → World → Prop) (hm : m = n - 1) (hn : 1 ≤ n)
    (hJ : ∀ pre W W', J pre W → Mod [Sb] W W' → J pre W')
    (hY : ∀ pre x W, J pre W → pre.length ≤ l.length → YieldAt Fence.wide m Tryz.prog u #[wdV x] W fun e W' => e = .returned (.bool true) ∧ J (pre ++ [x]) W' ∧ W'.heap[Sb]? = W.heap[Sb]? ∧ W.heap.size ≤ W'.heap.size)
    (W : World) (hS : Blk W Sb #[.string (str l)] 9) (hl : l.length < 4294967000) (h0 : J [] W) :
    CallsIn Fence.wide n Tryz.prog 63 #[.func (.yield u) #[] #[], .pointer (some ⟨Sb, 0, none⟩)] W fun e W' => J (wordsL l).1 W' ∧ e = endE (wordsL l).2 := by
  subst hm
  have HJ := hid hJ
  have HY := hid hY
  clear hJ hY
  refine callsIn_of_wp Tryz.func63 rfl trivial ?_ rfl
  simp only [Tryz.ntmps63, List.size_toArray, List.length_cons, List.length_nil, Nat.reduceAdd, Nat.reduceSub, Array.replicate_succ, Array.replicate_zero, List.push_toArray, List.append_toArray, List.nil_append, List.cons_append]
  gi_wp2
  gi_loopg [5] (l.length + 1) (fun g _ wr => ∃ (r : Bs) (pre : List Wd), r.length < g ∧ Hid (pre.length + r.length ≤ l.length) ∧ Hid (wordsL l = (pre ++ (wordsL r).1, (wordsL r).2)) ∧ Hid (Blk wr Sb #[.string (str r)] 9) ∧ Hid (J pre wr))
  case atStart => exact ⟨l, [], by omega, by simp [Hid], by simp [Hid], hS, h0⟩
  case round =>
    obtain ⟨r, pre, hg, hP, hQ, hB, hJ⟩ := hrel
    have r0 := hB.out.cell 0
    have rl := hB.out.lt
    have rf := hB.out.free 0
    simp only [List.getElem?_toArray, List.getElem?_cons_zero] at r0
    have hrl : r.length ≤ l.length := by have := hP.out; omega
    clear hS h0
    gi_wp2_with fail
    refine ⟨trivial, ?_⟩
    refine (callsIn_wide.2 (trim_c r wr)).mono ?_
    rintro e w1 ⟨rfl, hm⟩
    obtain ⟨r1, hr1⟩ : ∃ r1, r1 = r.dropWhile isBlank := ⟨_, rfl⟩
    rw [← hr1]
    have hq := hQ.out
    rw [wordsL_eq r, ← hr1] at hq
    have hd := drop_len isBlank r
    rw [← hr1] at hd
    have HQ := hid hq
    have hh := drop_head isBlank r
    rw [← hr1] at hh
    have HH := hid hh
    have hB1 := hm.blk hB.out (by simp)
    have HB1 := hid hB1
    have rl1 := hB1.lt
    have r01 := hB1.cell 0
    have rf1 := hB1.free 0
    simp only [List.getElem?_toArray, List.getElem?_cons_zero] at r01
    have HJ1 : Hid (J pre (w1.setCell ⟨Sb, 0, none⟩ (.string (str r1)))) := HJ.out pre wr _ hJ.out ((hm.mono (m := [Sb]) (by simp)).setCell (p := ⟨Sb, 0, none⟩) (Or.inl (by simp)) _)
    have HB2 : Hid (Blk (w1.setCell ⟨Sb, 0, none⟩ (.string (str r1))) Sb #[.string (str r1)] 9) := HB1.out.set 0 _
    clear hq hh hr1 hm hB1 hB hJ r0 rl rf hQ
    rcases r1 with _ | ⟨c, t⟩
    · gi_wp2
      refine bodyPost_ret (results_none rfl _ _ _) rfl ?_
      have := HQ.out
      simp only [List.append_nil] at this
      rw [this]
      exact ⟨HJ1.out, rfl⟩
    · have hne : ((str (c :: t)).toList == (⟨#[]⟩ : ByteArray).toList) = false := by simp
      have hix := run_at (str (c :: t)) 0 c rfl
      simp only [Int.natCast_zero] at hix
      by_cases c35 : c = 35
      · subst c35
        gi_wp2
        refine bodyPost_ret (results_none rfl _ _ _) rfl ?_
        have := HQ.out
        simp only [List.append_nil, show ((35 : UInt8) == 35) = true from rfl, if_true] at this
        rw [this]
        exact ⟨HJ1.out, rfl⟩
      · have e35 : ((c.toNat : Int) == 35) = false := ne_u8 c35
        have b35 : (c == 35) = false := beq_eq_false_iff_ne.2 c35
        obtain ⟨W2, hW2⟩ : ∃ W2, W2 = w1.setCell ⟨Sb, 0, none⟩ (.string (str (c :: t))) := ⟨_, rfl⟩
        rw [← hW2] at HJ1 HB2
        have HW2 := hid hW2
        have rl2 := HB2.out.lt
        have r02 := HB2.out.cell 0
        have rf2 := HB2.out.free 0
        simp only [List.getElem?_toArray, List.getElem?_cons_zero] at r02
        have hlen : t.length + 1 ≤ r.length := by simpa using hd
        have hlen2 : Hid (pre.length ≤ l.length) := by have := hP.out; show _ ≤ _; omega
        have HWD := hid (Blk.new W2 #[.string mt0, .bool false] 87)
        rw [show W2.heap.size = w1.heap.size by rw [hW2]; simp] at HWD
        obtain ⟨wb, hwb⟩ : ∃ wb, wb = w1.heap.size := ⟨_, rfl⟩
        rw [← hwb] at HWD
        have hwSb : Sb < wb := by rw [hwb]; exact rl1
        have HWB := hid hwb
        have HM2 := hid ((Mod.refl [Sb] W2).alloc (.cells #[.string mt0, .bool false] 87))
        have hsz : Hid (wb = W2.heap.size) := by show _ = _; rw [hW2, hwb]; simp
        have HB3 := hid (HB2.out.alloc (.cells #[.string mt0, .bool false] 87))
        clear hW2 hwb
        by_cases c34 : c = 34
        · subst c34
          have HC := hid (quoted_c (str (34 :: t)) (W2.alloc (.cells #[.string mt0, .bool false] 87)) (by simp [ByteArray.size]) (by simp [ByteArray.size]; omega) (quotedL t) rfl)
          gi_wp2_with fail
          refine ⟨trivial, ?_⟩
          rw [← HW2.out, ← HWB.out]
          refine (callsIn_wide.2 HC.out).mono ?_
          rintro e w2 ⟨hm, he⟩
          have hq := HQ.out
          simp only [show ((34 : UInt8) == 35) = false from rfl, show ((34 : UInt8) == 34) = true from rfl, if_true, Bool.false_eq_true, if_false] at hq
          have hB4 := hm.blk HB3.out (by simp)
          have hW4 := hm.blk HWD.out (by simp)
          have HM4 := hid (HM2.out.tr (hm.mono (m := [Sb]) (by simp)))
          have hqn := quotedL_len _ t (Nat.le_refl _)
          rcases hqt : quotedL t with _ | ⟨x, y⟩
          · rw [hqt] at he hq
            subst he
            refine ⟨rfl, ?_⟩
            simp only [List.append_nil] at hq
            rw [hq]
            exact ⟨HJ.out pre W2 _ HJ1.out HM4.out, rfl⟩
          · rw [hqt] at he hq
            subst he
            have hyl := hqn x y hqt
            have HB4 := hid hB4
            have HW4 := hid hW4
            have HQ4 := hid hq
            have s0 := hB4.cell 0
            have sf := hB4.free 0
            have sl := hB4.lt
            have k0 := hW4.cell 0
            have k1 := hW4.cell 1
            have kf0 := hW4.free 0
            have kf1 := hW4.free 1
            have kl := hW4.lt
            simp only [List.getElem?_toArray, List.getElem?_cons_zero, List.getElem?_cons_succ] at s0 k0 k1
            have hM5 := ((HM4.out.setCell (p := ⟨wb, 0, none⟩) (Or.inr (by rw [← hsz.out]; exact Nat.le_refl _)) (.string (str x))).setCell (p := ⟨wb, 1, none⟩) (Or.inr (by rw [← hsz.out]; exact Nat.le_refl _)) (.bool true)).setCell (p := ⟨Sb, 0, none⟩) (Or.inl (by simp)) (.string (str y))
            have hJ5 := HJ.out pre W2 _ HJ1.out hM5
            have HB5 : Hid (Blk (((w2.setCell ⟨wb, 0, none⟩ (.string (str x))).setCell ⟨wb, 1, none⟩ (.bool true)).setCell ⟨Sb, 0, none⟩ (.string (str y))) Sb #[.string (str y)] 9) := ((HB4.out.other (a := ⟨wb, 0, none⟩) (by simp; omega) _).other (a := ⟨wb, 1, none⟩) (by simp; omega) _).set 0 _
            obtain ⟨fn, tmps, assign, body, hy, hR⟩ := HY.out pre ⟨x, true⟩ _ hJ5 hlen2.out
            simp only [wdV] at hy
            have HR := hid hR
            clear hR hJ5 hM5
            gi_wp2
            refine HR.out.mono ?_
            rintro e w3 ⟨rfl, hJ6, hk, hz⟩
            have HJ6 := hid hJ6
            have HB6 : Hid (Blk w3 Sb #[.string (str y)] 9) := hk.trans HB5.out
            clear hJ6 hk hz
            gi_wp2
            go_roundg (gk - 1)
            case measure => omega
            case rel => exact ⟨y, pre ++ [⟨x, true⟩], by omega, by have := hP.out; simp [Hid]; omega, by have := HQ4.out; simpa [Hid] using this, HB6, HJ6⟩
        · have e34 : ((c.toNat : Int) == 34) = false := ne_u8 c34
          have b34 : (c == 34) = false := beq_eq_false_iff_ne.2 c34
          obtain ⟨k, hk⟩ : ∃ k, k = ((c :: t).takeWhile (fun c => !isBlank c)).length := ⟨_, rfl⟩
          have htk := take_len (fun c => !isBlank c) (c :: t)
          rw [← hk] at htk
          have hcb := HH.out c t rfl
          have hk1 : 1 ≤ k := by rw [hk, List.takeWhile_cons, hcb]; simp
          have hk2 : k ≤ t.length + 1 := by
            have := congrArg List.length htk.1
            rw [List.length_take, ← hk] at this
            simp at this
            omega
          have hbl : blankAt (byt (str (c :: t) ++ ⟨#[32]⟩)) = (k : Int) := by
            have e : byt (str (c :: t) ++ ⟨#[32]⟩) = (c :: t) ++ [32] := by
              show (ByteArray.append _ _).data.toList = _
              simp
            rw [e, blankAt_eq _ (by simp [isBlank]), take_app, hk]
          have HC := hid (any_c (str (c :: t) ++ ⟨#[32]⟩) (W2.alloc (.cells #[.string mt0, .bool false] 87)) (by simp [ByteArray.size]; omega))
          rw [hbl] at HC
          have hsz1 : ¬ 9223372036854775807 < (str (c :: t)).size + 1 := by rw [str_len]; simp; omega
          have hto : ∀ w, (Instr.slice 9 (.string (str (c :: t))) none (some (.int .i64 (k : Int))) none).run Tryz.prog w = .ok (.string (str ((c :: t).take k))) w := fun w => run_to (str (c :: t)) k (by rw [str_len]; simp; omega) w
          have hfr : ∀ w, (Instr.slice 9 (.string (str (c :: t))) (some (.int .i64 (k : Int))) none none).run Tryz.prog w = .ok (.string (str ((c :: t).drop k))) w := fun w => run_from (str (c :: t)) k (by rw [str_len]; simp; omega) w
          have hq := HQ.out
          simp only [b35, b34, Bool.false_eq_true, if_false] at hq
          rw [← htk.1, ← htk.2] at hq
          have HQ4 := hid hq
          have hxl : ((c :: t).drop k).length ≤ t.length := by rw [List.length_drop]; simp; omega
          clear hq hbl htk hk hcb hk2 HQ
          generalize (c :: t).take k = x at *
          generalize (c :: t).drop k = y at *
          gi_wp2_with fail
          refine ⟨trivial, ?_⟩
          rw [← HW2.out, ← HWB.out]
          refine (callsIn_wide.2 HC.out).mono ?_
          rintro e w2 ⟨rfl, hm⟩
          have hB4 := hm.blk HB3.out (by simp)
          have hW4 := hm.blk HWD.out (by simp)
          have HM4 := hid (HM2.out.tr (hm.mono (m := [Sb]) (by simp)))
          have HB4 := hid hB4
          have HW4 := hid hW4
          have s0 := hB4.cell 0
          have sf := hB4.free 0
          have sl := hB4.lt
          have k0 := hW4.cell 0
          have k1 := hW4.cell 1
          have kf0 := hW4.free 0
          have kf1 := hW4.free 1
          have kl := hW4.lt
          simp only [List.getElem?_toArray, List.getElem?_cons_zero, List.getElem?_cons_succ] at s0 k0 k1
          clear hm hB4 hW4 HC HB2 rl2 r02 rf2 hsz1
          gi_wp2_with fail
          gi_region
          have hM5 := (((HM4.out.setCell (p := ⟨wb, 0, none⟩) (Or.inr (by rw [← hsz.out]; exact Nat.le_refl _)) (.string (str x))).setCell (p := ⟨wb, 1, none⟩) (Or.inr (by rw [← hsz.out]; exact Nat.le_refl _)) (.bool false)).setCell (p := ⟨Sb, 0, none⟩) (Or.inl (by simp)) (.string (str y))).drew
          have hJ5 := HJ.out pre W2 _ HJ1.out hM5
          have HB5 : Hid (Blk ((((w2.setCell ⟨wb, 0, none⟩ (.string (str x))).setCell ⟨wb, 1, none⟩ (.bool false)).setCell ⟨Sb, 0, none⟩ (.string (str y))).drew) Sb #[.string (str y)] 9) := (((HB4.out.other (a := ⟨wb, 0, none⟩) (by simp; omega) _).other (a := ⟨wb, 1, none⟩) (by simp; omega) _).set 0 _).drew
          obtain ⟨fn, tmps, assign, body, hy, hR⟩ := HY.out pre ⟨x, false⟩ _ hJ5 hlen2.out
          simp only [wdV] at hy
          have HR := hid hR
          clear hR hJ5 hM5 hto hfr
          gi_wp2
          refine HR.out.mono ?_
          rintro e w3 ⟨rfl, hJ6, hk, hz⟩
          have HJ6 := hid hJ6
          have HB6 : Hid (Blk w3 Sb #[.string (str y)] 9) := hk.trans HB5.out
          clear hJ6 hk hz
          gi_wp2
          go_roundg (gk - 1)
          case measure => omega
          case rel => exact ⟨y, pre ++ [⟨x, false⟩], by omega, by have := hP.out; simp [Hid]; omega, by have := HQ4.out; simpa [Hid] using this, HB6, HJ6⟩
end
end Go.Proofs.YtibhkldnimfnkaaGreatDoor
