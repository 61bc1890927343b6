/- Script: parts YA YB YC YD YE YF YG YH YI YJ. -/
import Derived.Test.YtibhkldnimfnkaaGreatDoorG09

/- Script: the printers of places. -/
namespace Go.Proofs.YtibhkldnimfnkaaGreatDoor
section
set_option linter.unusedVariables false
set_option linter.unusedSimpArgs false
set_option linter.unusedSectionVars false
open Go.RowKit

/-- A step's cells, written out. -/
abbrev stA (s : St) : Array Value := #[.int .i64 s.kind, .int .i64 s.a, .int .i64 s.b, .int .i64 s.ck, .int .u64 (s.ts : Int), .string (str s.key), .string (str s.hi), .string (str s.val)]
/-- A step as a value (a struct in a struct lies flat). -/
abbrev stF (s : St) : Value := .agg #[.int .i64 s.kind, .int .i64 s.a, .int .i64 s.b, .int .i64 s.ck, .int .u64 (s.ts : Int), .string (str s.key), .string (str s.hi), .string (str s.val)]
theorem tab_glob : Tryz.prog.globalNamed "internal/strconv.uint64pow10" = some 4 := by kernel_rfl
theorem Tab.mod {l : List Nat} {w w' : World} (h : Tab w) (hm : Mod l w w') (hl : 4 ∉ l) : Tab w' := by
  unfold Tab Lib.TabIs World.var? at *
  rw [tab_glob] at h ⊢
  simp only [Option.bind_some] at h ⊢
  have hlt : 4 < w.heap.size := by
    rcases Nat.lt_or_ge 4 w.heap.size with h' | h'
    · exact h'
    · rw [Array.getElem?_eq_none h'] at h; simp at h
  rw [hm.block 4 hlt hl]
  exact h

set_option maxRecDepth 100000 in
set_option maxHeartbeats 1000000 in
theorem count2_c (k o : Nat) (hk : Gets k 0 o) (s : St) (v : Int) (hv : (stA s)[o]? = some (.int .i64 v)) (h0 : -9223372036854775808 ≤ v) (h1 : v ≤ 9223372036854775807) (bf : Nat) (w : World) (hf : Blk w bf #[.func (.func k) #[] #[]] 135) (ht : Tab w) :
    Calls Tryz.prog 102 #[stF s, .pointer (some ⟨bf, 0, none⟩)] w fun e w' => e = .returned (.string (str (Lib.itoa v))) ∧ Mod [] w w' := by
  have henter := hk.1
  have HG := hid hk.2
  obtain ⟨w1, hw1⟩ : ∃ w1, w1 = w.alloc (.cells #[.int .i64 s.kind, .int .i64 s.a, .int .i64 s.b, .int .i64 s.ck, .int .u64 (s.ts : Int), .string (str s.key), .string (str s.hi), .string (str s.val)] 46) := ⟨_, rfl⟩
  have hm1 : Mod [] w w1 := by rw [hw1]; exact (Mod.refl [] w).alloc _
  have hbs : Blk w1 w.heap.size (stA s) 46 := by rw [hw1]; exact Blk.new _ _ _
  have f0 := hf.cell 0
  have f1 := (hm1.blk hf (by simp)).cell 0
  have fl := hf.lt
  have c1 := (hbs.cell o).trans hv
  simp only [List.getElem?_toArray, List.getElem?_cons_zero] at f0 f1
  have HM1 := hid hm1
  have HW1 := hid hw1
  have HI := hid (itoa_c v h0 h1 w1 (ht.mod hm1 (by simp)))
  clear hf hk hbs hv ht hm1 hw1
  go_enter Tryz.func102, Tryz.ntmps102
  go_wp2_with fail
  rw [← HW1.out]
  refine (HG.out _ _).mono ?_
  rintro e w' ⟨rfl, rfl⟩
  go_wp2_with fail
  refine HI.out.mono ?_
  rintro e w2 ⟨rfl, hm⟩
  have HM2 := hid (HM1.out.tr hm)
  clear hm
  go_wp2_with fail
  go_ret
  exact ⟨rfl, HM2.out⟩
end
end Go.Proofs.YtibhkldnimfnkaaGreatDoor

/- Script: the printers of places, two. -/
namespace Go.Proofs.YtibhkldnimfnkaaGreatDoor
section
set_option linter.unusedVariables false
set_option linter.unusedSimpArgs false
set_option linter.unusedSectionVars false
open Go.RowKit

set_option maxRecDepth 100000 in
set_option maxHeartbeats 1000000 in
theorem text2_c (k o : Nat) (hk : Gets k 3 o) (s : St) (v : Bs) (hv : (stA s)[o]? = some (.string (str v))) (hvl : v.length < 1000000) (bf : Nat) (w : World) (hf : Blk w bf #[.func (.func k) #[] #[]] 139) :
    Calls Tryz.prog 106 #[stF s, .pointer (some ⟨bf, 0, none⟩)] w fun e w' => e = .returned (.string (str (quoteL v))) ∧ Mod [] w w' := by
  have henter := hk.1
  have HG := hid hk.2
  obtain ⟨w1, hw1⟩ : ∃ w1, w1 = w.alloc (.cells #[.int .i64 s.kind, .int .i64 s.a, .int .i64 s.b, .int .i64 s.ck, .int .u64 (s.ts : Int), .string (str s.key), .string (str s.hi), .string (str s.val)] 46) := ⟨_, rfl⟩
  have hm1 : Mod [] w w1 := by rw [hw1]; exact (Mod.refl [] w).alloc _
  have hbs : Blk w1 w.heap.size (stA s) 46 := by rw [hw1]; exact Blk.new _ _ _
  have f0 := hf.cell 0
  have f1 := (hm1.blk hf (by simp)).cell 0
  have fl := hf.lt
  have c1 := (hbs.cell o).trans hv
  simp only [List.getElem?_toArray, List.getElem?_cons_zero] at f0 f1
  have HM1 := hid hm1
  have HW1 := hid hw1
  have HI := hid (quote_c v w1 hvl)
  clear hf hk hbs hv hm1 hw1
  go_enter Tryz.func106, Tryz.ntmps106
  go_wp2_with fail
  rw [← HW1.out]
  refine (HG.out _ _).mono ?_
  rintro e w' ⟨rfl, rfl⟩
  go_wp2_with fail
  refine HI.out.mono ?_
  rintro e w2 ⟨rfl, hm⟩
  have HM2 := hid (HM1.out.tr hm)
  clear hm
  go_wp2_with fail
  go_ret
  exact ⟨rfl, HM2.out⟩
set_option maxRecDepth 100000 in
set_option maxHeartbeats 1000000 in
theorem stamp2_c (s : St) (hts : s.ts < 18446744073709551616) (w : World) (ht : Tab w) :
    Calls Tryz.prog 112 #[stF s] w fun e w' => e = .returned (.string (str (Lib.decDigits s.ts))) ∧ Mod [] w w' := by
  obtain ⟨w1, hw1⟩ : ∃ w1, w1 = w.alloc (.cells #[.int .i64 s.kind, .int .i64 s.a, .int .i64 s.b, .int .i64 s.ck, .int .u64 (s.ts : Int), .string (str s.key), .string (str s.hi), .string (str s.val)] 46) := ⟨_, rfl⟩
  have hm1 : Mod [] w w1 := by rw [hw1]; exact (Mod.refl [] w).alloc _
  have HM1 := hid hm1
  have HW1 := hid hw1
  have HI := hid (formatUint_c s.ts hts w1 (ht.mod hm1 (by simp)))
  clear ht hm1 hw1
  go_enter Tryz.func112, Tryz.ntmps112
  go_wp2_with fail
  rw [← HW1.out]
  refine HI.out.mono ?_
  rintro e w2 ⟨rfl, hm⟩
  have HM2 := hid (HM1.out.tr hm)
  clear hm
  go_wp2_with fail
  go_ret
  exact ⟨rfl, HM2.out⟩
end
end Go.Proofs.YtibhkldnimfnkaaGreatDoor

/- Script: who is printed. -/
namespace Go.Proofs.YtibhkldnimfnkaaGreatDoor
section
set_option linter.unusedVariables false
set_option linter.unusedSimpArgs false
set_option linter.unusedSectionVars false
open Go.RowKit

theorem and_one (a : Int) : bits .and .i64 a 1 = a % 2 := by
  unfold bits
  have e : ((BitVec.ofInt IntKind.i64.bits a &&& BitVec.ofInt IntKind.i64.bits 1).toNat : Int) = a % 2 := by
    rw [BitVec.toNat_and]
    have h1 : (BitVec.ofInt IntKind.i64.bits 1).toNat = 1 := by decide
    rw [h1, Nat.and_one_is_mod, BitVec.toNat_ofInt]
    have : (2 : Int) ^ IntKind.i64.bits = 18446744073709551616 := by decide
    have h2 : ((2 ^ IntKind.i64.bits : Nat) : Int) = 18446744073709551616 := by decide
    rw [h2]
    omega
  exact (congrArg _ e).trans (IntWalk.i64_in _ (by omega))

set_option maxRecDepth 100000 in
set_option maxHeartbeats 1000000 in
theorem who2_c (s : St) (bn nb : Nat) (w : World) (hn : Blk w bn #[.slice (some ⟨nb, 0, none⟩) 2 2] 49) (hnn : Blk w nb #[nmV, nmV'] 9) :
    Calls Tryz.prog 110 #[stF s, .pointer (some ⟨bn, 0, none⟩)] w fun e w' => e = .returned (.string (str (if s.a % 2 = 0 then tcB else dcB))) ∧ Mod [] w w' := by
  have hm1 : Mod [] w (w.alloc (.cells #[.int .i64 s.kind, .int .i64 s.a, .int .i64 s.b, .int .i64 s.ck, .int .u64 (s.ts : Int), .string (str s.key), .string (str s.hi), .string (str s.val)] 46)) := (Mod.refl [] w).alloc _
  have HM1 := hid hm1
  have n0 := hn.cell 0
  have m0 := hnn.cell 0
  have m1 := hnn.cell 1
  have nl := hn.lt
  have ml := hnn.lt
  simp only [List.getElem?_toArray, List.getElem?_cons_zero, List.getElem?_cons_succ] at n0 m0 m1
  clear hn hnn hm1
  have hb := and_one s.a
  rcases (by omega : s.a % 2 = 0 ∨ s.a % 2 = 1) with h | h
  · rw [h] at hb
    rw [if_pos h]
    have HH := hid h
    clear h
    go_enter Tryz.func110, Tryz.ntmps110
    go_wp2_with fail
    go_ret
    exact ⟨rfl, HM1.out⟩
  · rw [h] at hb
    rw [if_neg (by omega)]
    have HH := hid h
    clear h
    go_enter Tryz.func110, Tryz.ntmps110
    go_wp2_with fail
    go_ret
    exact ⟨rfl, HM1.out⟩
end
end Go.Proofs.YtibhkldnimfnkaaGreatDoor

/- Script: places in memory. -/
namespace Go.Proofs.YtibhkldnimfnkaaGreatDoor
section
set_option linter.unusedVariables false
set_option linter.unusedSimpArgs false
set_option linter.unusedSectionVars false
open Go.RowKit

/-- What may be printed of a step: its numbers are numbers of Go's, its texts are not too long. -/
structure StOk (s : St) : Prop where
  a0 : -9223372036854775808 ≤ s.a
  a1 : s.a ≤ 9223372036854775807
  b0 : -9223372036854775808 ≤ s.b
  b1 : s.b ≤ 9223372036854775807
  ts : s.ts < 18446744073709551616
  key : s.key.length < 1000000
  hi : s.hi.length < 1000000
  val : s.val.length < 1000000
/-- What is printed in a place. -/
def prP (p : Pl) (s : St) : Bs :=
  match p with
  | .nA _ _ => Lib.itoa s.a
  | .nB _ _ => Lib.itoa s.b
  | .who => if s.a % 2 = 0 then tcB else dcB
  | .ts => Lib.decDigits s.ts
  | .key _ => quoteL s.key
  | .hi => quoteL s.hi
  | .val => quoteL s.val
/-- A later world, in which nothing was written from N on that had been there. -/
def Later (N : Nat) (w w' : World) : Prop := ∃ L, Mod L w w' ∧ ∀ y ∈ L, y < N ∨ w.heap.size ≤ y
theorem Later.refl (N : Nat) (w : World) : Later N w w := ⟨[], Mod.refl _ _, by simp⟩
theorem Later.trans {N : Nat} {a b c : World} (h : Later N a b) (k : Later N b c) : Later N a c := by
  obtain ⟨L, h1, h2⟩ := h
  obtain ⟨L', k1, k2⟩ := k
  refine ⟨L ++ L', h1.trans k1 (fun x hx _ => by simp [hx]) (fun x hx _ => by simp [hx]), fun y hy => ?_⟩
  rcases List.mem_append.1 hy with hy | hy
  · exact h2 y hy
  · rcases k2 y hy with h | h
    · exact Or.inl h
    · exact Or.inr (Nat.le_trans h1.size h)
theorem Later.blk {N : Nat} {w w' : World} (h : Later N w w') {b : Nat} {c : Array Value} {T : TypeId} (hb : Blk w b c T) (hN : N ≤ b) : Blk w' b c T := by
  obtain ⟨L, h1, h2⟩ := h
  refine h1.blk hb (fun hy => ?_)
  have := hb.lt
  rcases h2 b hy with h | h <;> omega

abbrev Enters (k : Nat) : Prop := ∀ args w, (callFunc k args).run Tryz.prog w = .ok (.enter k args) w
/-- The value of a place: it is read, and printed, as the place says, in each later world. -/
def PlVal (N : Nat) (p : Pl) (v : Value) (w : World) : Prop := ∃ k1 c1 k2 c2, v = .agg #[.func (.func k1) #[] c1, .func (.func k2) #[] c2] ∧ Enters k1 ∧ Enters k2 ∧
  (∀ w', Later N w w' → ∀ (x : Wd) (s : St) (b : Nat), x.text.length < 4294967000 → Blk w' b (stA s) 46 → (b < N ∨ w.heap.size ≤ b) →
    Calls Tryz.prog k1 (#[wdV x, .pointer (some ⟨b, 0, none⟩)] ++ c1) w' (ReadG b w' ((readP p x s).map stC))) ∧
  (∀ w', Later N w w' → Tab w' → ∀ s, StOk s → Calls Tryz.prog k2 (#[stF s] ++ c2) w' fun e w'' => e = .returned (.string (str (prP p s))) ∧ Mod [] w' w'')
theorem PlVal.later {N : Nat} {p : Pl} {v : Value} {w w' : World} (h : PlVal N p v w) (hl : Later N w w') : PlVal N p v w' := by
  obtain ⟨k1, c1, k2, c2, h0, h1, h2, h3, h4⟩ := h
  have hsz : w.heap.size ≤ w'.heap.size := by obtain ⟨L, hm, _⟩ := hl; exact hm.size
  exact ⟨k1, c1, k2, c2, h0, h1, h2, fun w2 hl2 x s b hx hb hN => h3 w2 (hl.trans hl2) x s b hx hb (by rcases hN with h | h; exact Or.inl h; exact Or.inr (Nat.le_trans hsz h)), fun w2 hl2 => h4 w2 (hl.trans hl2)⟩
end
end Go.Proofs.YtibhkldnimfnkaaGreatDoor

/- Script: places are made. -/
namespace Go.Proofs.YtibhkldnimfnkaaGreatDoor
section
set_option linter.unusedVariables false
set_option linter.unusedSimpArgs false
set_option linter.unusedSectionVars false
open Go.RowKit

theorem blk_ne {w : World} {b b' : Nat} {c c' : Array Value} {T T' : TypeId} (h : Blk w b c T) (h' : Blk w b' c' T') (hc : c.size ≠ c'.size) : b ≠ b' := by
  rintro rfl
  unfold Blk at h h'
  rw [h] at h'
  cases h'
  exact hc rfl

theorem mkFunc (fn : Fn) (first cap : Array Value) (w : World) : (Instr.makeFunc fn first cap).run Tryz.prog w = .ok (.func fn first cap) w := rfl

set_option maxRecDepth 100000 in
set_option maxHeartbeats 1000000 in
/-- count's boxes, and the two functions. -/
theorem count_made (k lo hi : Nat) (w : World) :
    Calls Tryz.prog 67 #[.func (.func k) #[] #[], .int .u64 (lo : Int), .int .u64 (hi : Int)] w fun e w' => Mod [] w w' ∧ ∃ bf bl bh, w.heap.size ≤ bf ∧ w.heap.size ≤ bl ∧ w.heap.size ≤ bh ∧
      Blk w' bl #[.int .u64 (lo : Int)] 42 ∧ Blk w' bh #[.int .u64 (hi : Int)] 42 ∧ Blk w' bf #[.func (.func k) #[] #[]] 135 ∧
      e = .returned (.agg #[.func (.func 100) #[] #[.pointer (some ⟨bl, 0, none⟩), .pointer (some ⟨bh, 0, none⟩), .pointer (some ⟨bf, 0, none⟩)], .func (.func 102) #[] #[.pointer (some ⟨bf, 0, none⟩)]]) := by
  have hmf := mkFunc
  have hsf := fun (f : Nat) (a : Addr) (c : Array Value) (w : World) => run_store Tryz.prog w a (.func (.func f) #[] c) .plain rfl
  go_enter Tryz.func67, Tryz.ntmps67
  go_wp2_with fail
  refine bodyPost_ret (v := .agg #[.func (.func 100) #[] #[.pointer (some ⟨w.heap.size + 1, 0, none⟩), .pointer (some ⟨w.heap.size + 1 + 1, 0, none⟩), .pointer (some ⟨w.heap.size, 0, none⟩)], .func (.func 102) #[] #[.pointer (some ⟨w.heap.size, 0, none⟩)]]) (by simp [results, Tryz.results67, go_sem]) rfl ?_
  have hf := ((Blk.new w #[.func (.func k) #[] #[]] 135).alloc (.cells #[.int .u64 (lo : Int)] 42)).alloc (.cells #[.int .u64 (hi : Int)] 42)
  have hl := (Blk.new (w.alloc (.cells #[.func (.func k) #[] #[]] 135)) #[.int .u64 (lo : Int)] 42).alloc (.cells #[.int .u64 (hi : Int)] 42)
  have hh := Blk.new ((w.alloc (.cells #[.func (.func k) #[] #[]] 135)).alloc (.cells #[.int .u64 (lo : Int)] 42)) #[.int .u64 (hi : Int)] 42
  have s1 : (w.alloc (.cells #[.func (.func k) #[] #[]] 135)).heap.size = w.heap.size + 1 := by simp
  have s2 : ((w.alloc (.cells #[.func (.func k) #[] #[]] 135)).alloc (.cells #[.int .u64 (lo : Int)] 42)).heap.size = w.heap.size + 1 + 1 := by simp
  rw [s1] at hl
  rw [s2] at hh
  exact ⟨((((Mod.refl [] w).alloc _).alloc _).alloc _).alloc _, w.heap.size, w.heap.size + 1, w.heap.size + 1 + 1, by omega, by omega, by omega, hl.alloc _, hh.alloc _, hf.alloc _, rfl⟩
end
end Go.Proofs.YtibhkldnimfnkaaGreatDoor

/- Script: places are made, two. -/
namespace Go.Proofs.YtibhkldnimfnkaaGreatDoor
section
set_option linter.unusedVariables false
set_option linter.unusedSimpArgs false
set_option linter.unusedSectionVars false
open Go.RowKit

set_option maxRecDepth 100000 in
set_option maxHeartbeats 1000000 in
/-- text's boxes, and the two functions. -/
theorem text_made (k lo hi : Nat) (w : World) :
    Calls Tryz.prog 69 #[.func (.func k) #[] #[], .int .i64 (lo : Int), .int .i64 (hi : Int)] w fun e w' => Mod [] w w' ∧ ∃ bf bl bh, w.heap.size ≤ bf ∧ w.heap.size ≤ bl ∧ w.heap.size ≤ bh ∧
      Blk w' bl #[.int .i64 (lo : Int)] 3 ∧ Blk w' bh #[.int .i64 (hi : Int)] 3 ∧ Blk w' bf #[.func (.func k) #[] #[]] 139 ∧
      e = .returned (.agg #[.func (.func 104) #[] #[.pointer (some ⟨bl, 0, none⟩), .pointer (some ⟨bh, 0, none⟩), .pointer (some ⟨bf, 0, none⟩)], .func (.func 106) #[] #[.pointer (some ⟨bf, 0, none⟩)]]) := by
  have hmf := mkFunc
  have hsf := fun (f : Nat) (a : Addr) (c : Array Value) (w : World) => run_store Tryz.prog w a (.func (.func f) #[] c) .plain rfl
  go_enter Tryz.func69, Tryz.ntmps69
  go_wp2_with fail
  refine bodyPost_ret (v := .agg #[.func (.func 104) #[] #[.pointer (some ⟨w.heap.size + 1, 0, none⟩), .pointer (some ⟨w.heap.size + 1 + 1, 0, none⟩), .pointer (some ⟨w.heap.size, 0, none⟩)], .func (.func 106) #[] #[.pointer (some ⟨w.heap.size, 0, none⟩)]]) (by simp [results, Tryz.results69, go_sem]) rfl ?_
  have hf := ((Blk.new w #[.func (.func k) #[] #[]] 139).alloc (.cells #[.int .i64 (lo : Int)] 3)).alloc (.cells #[.int .i64 (hi : Int)] 3)
  have hl := (Blk.new (w.alloc (.cells #[.func (.func k) #[] #[]] 139)) #[.int .i64 (lo : Int)] 3).alloc (.cells #[.int .i64 (hi : Int)] 3)
  have hh := Blk.new ((w.alloc (.cells #[.func (.func k) #[] #[]] 139)).alloc (.cells #[.int .i64 (lo : Int)] 3)) #[.int .i64 (hi : Int)] 3
  have s1 : (w.alloc (.cells #[.func (.func k) #[] #[]] 139)).heap.size = w.heap.size + 1 := by simp
  have s2 : ((w.alloc (.cells #[.func (.func k) #[] #[]] 139)).alloc (.cells #[.int .i64 (lo : Int)] 3)).heap.size = w.heap.size + 1 + 1 := by simp
  rw [s1] at hl
  rw [s2] at hh
  exact ⟨((((Mod.refl [] w).alloc _).alloc _).alloc _).alloc _, w.heap.size, w.heap.size + 1, w.heap.size + 1 + 1, by omega, by omega, by omega, hl.alloc _, hh.alloc _, hf.alloc _, rfl⟩
end
end Go.Proofs.YtibhkldnimfnkaaGreatDoor

/- Script: places are made, three. -/
namespace Go.Proofs.YtibhkldnimfnkaaGreatDoor
section
set_option linter.unusedVariables false
set_option linter.unusedSimpArgs false
set_option linter.unusedSectionVars false
open Go.RowKit

set_option maxRecDepth 100000 in
set_option maxHeartbeats 1000000 in
theorem stamp_made (w : World) :
    Calls Tryz.prog 76 #[] w fun e w' => Mod [] w w' ∧ e = .returned (.agg #[.func (.func 111) #[] #[], .func (.func 112) #[] #[]]) := by
  have hmf := mkFunc
  have hsf := fun (f : Nat) (a : Addr) (c : Array Value) (w : World) => run_store Tryz.prog w a (.func (.func f) #[] c) .plain rfl
  go_enter Tryz.func76, Tryz.ntmps76
  go_wp2_with fail
  refine bodyPost_ret (v := .agg #[.func (.func 111) #[] #[], .func (.func 112) #[] #[]]) (by simp [results, Tryz.results76, go_sem]) rfl ?_
  exact ⟨(Mod.refl [] w).alloc _, rfl⟩
end
end Go.Proofs.YtibhkldnimfnkaaGreatDoor

/- Script: places are made, and stand. -/
namespace Go.Proofs.YtibhkldnimfnkaaGreatDoor
section
set_option linter.unusedVariables false
set_option linter.unusedSimpArgs false
set_option linter.unusedSectionVars false
open Go.RowKit
set_option maxRecDepth 100000

theorem Later.low {N N' : Nat} (h : N ≤ N') {w w' : World} (hl : Later N w w') : Later N' w w' := by
  obtain ⟨L, a, b⟩ := hl
  exact ⟨L, a, fun y hy => (b y hy).imp (fun h' => by omega) id⟩
theorem PlVal.low {N N' : Nat} (h : N ≤ N') {p : Pl} {v : Value} {w : World} (hp : PlVal N' p v w) : PlVal N p v w := by
  obtain ⟨k1, c1, k2, c2, h0, h1, h2, h3, h4⟩ := hp
  exact ⟨k1, c1, k2, c2, h0, h1, h2, fun w2 hl2 x s b hx hb hN => h3 w2 (hl2.low h) x s b hx hb (hN.imp (fun h' => by omega) id), fun w2 hl2 => h4 w2 (hl2.low h)⟩
theorem Later.mod {N : Nat} {w w' : World} (h : Mod [] w w') : Later N w w' := ⟨[], h, by simp⟩

theorem count_pl (p : Pl) (k o lo hi : Nat) (hk : Gets k 0 o) (ho : o < 8) (hhi : hi < 10000) (v : St → Int)
    (hr : ∀ x s, (readP p x s).map stC = (numL x lo hi).map fun (n : Nat) => (stC s).set o (.int .i64 (n : Int)))
    (hp : ∀ s, prP p s = Lib.itoa (v s)) (hv : ∀ s, (stA s)[o]? = some (.int .i64 (v s))) (h0 : ∀ s, StOk s → -9223372036854775808 ≤ v s) (h1 : ∀ s, StOk s → v s ≤ 9223372036854775807) (w : World) :
    Calls Tryz.prog 67 #[.func (.func k) #[] #[], .int .u64 (lo : Int), .int .u64 (hi : Int)] w fun e w' => Mod [] w w' ∧ ∃ u, e = .returned u ∧ PlVal w.heap.size p u w' := by
  refine (count_made k lo hi w).mono ?_
  rintro e w' ⟨hm, bf, bl, bh, gf, gl, gh, hl, hh, hf, rfl⟩
  refine ⟨hm, _, rfl, _, _, _, _, rfl, fun _ _ => rfl, fun _ _ => rfl, ?_, ?_⟩
  · intro w2 hl2 x s b hx hb hN
    have n1 := hl.lt
    have n2 := hh.lt
    have n3 := hf.lt
    have := count1_c k lo hi o ho hk x (stC s) b bl bh bf w2 rfl hx hhi hb (hl2.blk hl gl) (hl2.blk hh gh) (hl2.blk hf gf) (by omega) (by omega) (by omega)
    rw [hr]
    exact this
  · intro w2 hl2 ht s hs
    rw [hp]
    exact count2_c k o hk s (v s) (hv s) (h0 s hs) (h1 s hs) bf w2 (hl2.blk hf gf) ht

theorem text_pl (p : Pl) (k o lo hi : Nat) (hk : Gets k 3 o) (ho : o < 8) (v : St → Bs)
    (hr : ∀ x s, (readP p x s).map stC = (saidL x lo hi).map fun (n : Bs) => (stC s).set o (.string (str n)))
    (hp : ∀ s, prP p s = quoteL (v s)) (hv : ∀ s, (stA s)[o]? = some (.string (str (v s)))) (h0 : ∀ s, StOk s → (v s).length < 1000000) (w : World) :
    Calls Tryz.prog 69 #[.func (.func k) #[] #[], .int .i64 (lo : Int), .int .i64 (hi : Int)] w fun e w' => Mod [] w w' ∧ ∃ u, e = .returned u ∧ PlVal w.heap.size p u w' := by
  refine (text_made k lo hi w).mono ?_
  rintro e w' ⟨hm, bf, bl, bh, gf, gl, gh, hl, hh, hf, rfl⟩
  refine ⟨hm, _, rfl, _, _, _, _, rfl, fun _ _ => rfl, fun _ _ => rfl, ?_, ?_⟩
  · intro w2 hl2 x s b hx hb hN
    have n1 := hl.lt
    have n2 := hh.lt
    have n3 := hf.lt
    have := text1_c k lo hi o ho hk x (stC s) b bl bh bf w2 rfl hx hb (hl2.blk hl gl) (hl2.blk hh gh) (hl2.blk hf gf) (by omega) (by omega) (by omega)
    rw [hr]
    exact this
  · intro w2 hl2 ht s hs
    rw [hp]
    exact text2_c k o hk s (v s) (hv s) (h0 s hs) bf w2 (hl2.blk hf gf)

theorem nA_pl (lo hi : Nat) (hhi : hi < 10000) (w : World) : Calls Tryz.prog 67 #[.func (.func 68) #[] #[], .int .u64 (lo : Int), .int .u64 (hi : Int)] w fun e w' => Mod [] w w' ∧ ∃ u, e = .returned u ∧ PlVal w.heap.size (.nA lo hi) u w' :=
  count_pl (.nA lo hi) _ 1 lo hi gets_inA (by decide) hhi (·.a) (fun x s => by simp only [readP]; cases numL x lo hi <;> rfl) (fun _ => rfl) (fun _ => rfl) (fun _ h => h.a0) (fun _ h => h.a1) w
theorem nB_pl (lo hi : Nat) (hhi : hi < 10000) (w : World) : Calls Tryz.prog 67 #[.func (.func 74) #[] #[], .int .u64 (lo : Int), .int .u64 (hi : Int)] w fun e w' => Mod [] w w' ∧ ∃ u, e = .returned u ∧ PlVal w.heap.size (.nB lo hi) u w' :=
  count_pl (.nB lo hi) _ 2 lo hi gets_inB (by decide) hhi (·.b) (fun x s => by simp only [readP]; cases numL x lo hi <;> rfl) (fun _ => rfl) (fun _ => rfl) (fun _ h => h.b0) (fun _ h => h.b1) w
theorem key_pl (k lo : Nat) (hk : Gets k 3 5) (w : World) : Calls Tryz.prog 69 #[.func (.func k) #[] #[], .int .i64 (lo : Int), .int .i64 16] w fun e w' => Mod [] w w' ∧ ∃ u, e = .returned u ∧ PlVal w.heap.size (.key lo) u w' :=
  text_pl (.key lo) k 5 lo 16 hk (by decide) (·.key) (fun x s => by simp only [readP, Option.map_map]; rfl) (fun _ => rfl) (fun _ => rfl) (fun _ h => h.key) w
theorem hi_pl (w : World) : Calls Tryz.prog 69 #[.func (.func 72) #[] #[], .int .i64 0, .int .i64 16] w fun e w' => Mod [] w w' ∧ ∃ u, e = .returned u ∧ PlVal w.heap.size .hi u w' :=
  text_pl .hi _ 6 0 16 gets_3 (by decide) (·.hi) (fun x s => by simp only [readP, Option.map_map]; rfl) (fun _ => rfl) (fun _ => rfl) (fun _ h => h.hi) w
theorem val_pl (w : World) : Calls Tryz.prog 69 #[.func (.func 73) #[] #[], .int .i64 0, .int .i64 24] w fun e w' => Mod [] w w' ∧ ∃ u, e = .returned u ∧ PlVal w.heap.size .val u w' :=
  text_pl .val _ 7 0 24 gets_4 (by decide) (·.val) (fun x s => by simp only [readP, Option.map_map]; rfl) (fun _ => rfl) (fun _ => rfl) (fun _ h => h.val) w
theorem stamp_pl (w : World) : Calls Tryz.prog 76 #[] w fun e w' => Mod [] w w' ∧ ∃ u, e = .returned u ∧ PlVal w.heap.size .ts u w' := by
  refine (stamp_made w).mono ?_
  rintro e w' ⟨hm, rfl⟩
  refine ⟨hm, _, rfl, _, _, _, _, rfl, fun _ _ => rfl, fun _ _ => rfl, ?_, ?_⟩
  · intro w2 hl2 x s b hx hb hN
    have := stamp1_c x _ _ _ _ _ _ _ _ b w2 hx hb
    rw [show (readP .ts x s).map stC = (numL x 1 1099511627776).map fun (n : Nat) => (stC s).set 4 (.int .u64 (n : Int)) by simp only [readP, Option.map_map]; rfl]
    exact this
  · intro w2 hl2 ht s hs
    exact stamp2_c s hs.ts w2 ht
end
end Go.Proofs.YtibhkldnimfnkaaGreatDoor

/- Script: who is made. -/
namespace Go.Proofs.YtibhkldnimfnkaaGreatDoor
section
set_option linter.unusedVariables false
set_option linter.unusedSimpArgs false
set_option linter.unusedSectionVars false
open Go.RowKit

set_option maxRecDepth 100000 in
set_option maxHeartbeats 1000000 in
theorem who_made (w : World) :
    Calls Tryz.prog 75 #[] w fun e w' => Mod [] w w' ∧ ∃ bn nb, w.heap.size ≤ bn ∧ w.heap.size ≤ nb ∧ Blk w' bn #[.slice (some ⟨nb, 0, none⟩) 2 2] 49 ∧ Blk w' nb #[nmV, nmV'] 9 ∧
      e = .returned (.agg #[.func (.func 108) #[] #[.pointer (some ⟨bn, 0, none⟩)], .func (.func 110) #[] #[.pointer (some ⟨bn, 0, none⟩)]]) := by
  have hmf := mkFunc
  have hsf := fun (f : Nat) (a : Addr) (c : Array Value) (w : World) => run_store Tryz.prog w a (.func (.func f) #[] c) .plain rfl
  go_enter Tryz.func75, Tryz.ntmps75
  go_wp2_with fail
  refine bodyPost_ret (v := .agg #[.func (.func 108) #[] #[.pointer (some ⟨w.heap.size + 1 + 1, 0, none⟩)], .func (.func 110) #[] #[.pointer (some ⟨w.heap.size + 1 + 1, 0, none⟩)]]) (by simp [results, Tryz.results75, go_sem]) rfl ?_
  have hm := ((((Mod.refl [] w).alloc (.cells #[.func (.func 108) #[] #[.pointer (some ⟨w.heap.size + 1 + 1, 0, none⟩)], .func (.func 110) #[] #[.pointer (some ⟨w.heap.size + 1 + 1, 0, none⟩)]] 99)).alloc (.cells #[nmV, nmV'] 9)).alloc (.cells #[.slice (some ⟨w.heap.size + 1, 0, none⟩) 2 2] 49))
  generalize hw0 : w.alloc (.cells #[.func (.func 108) #[] #[.pointer (some ⟨w.heap.size + 1 + 1, 0, none⟩)], .func (.func 110) #[] #[.pointer (some ⟨w.heap.size + 1 + 1, 0, none⟩)]] 99) = w0 at hm ⊢
  have s1 : w0.heap.size = w.heap.size + 1 := by rw [← hw0]; simp
  have s2 : (w0.alloc (.cells #[nmV, nmV'] 9)).heap.size = w.heap.size + 1 + 1 := by simp [s1]
  have hn := (Blk.new w0 #[nmV, nmV'] 9).alloc (.cells #[.slice (some ⟨w.heap.size + 1, 0, none⟩) 2 2] 49)
  have hb := Blk.new (w0.alloc (.cells #[nmV, nmV'] 9)) #[.slice (some ⟨w.heap.size + 1, 0, none⟩) 2 2] 49
  rw [s1] at hn
  rw [s2] at hb
  exact ⟨hm, w.heap.size + 1 + 1, w.heap.size + 1, by omega, by omega, hb, hn, rfl⟩

set_option maxRecDepth 100000 in
theorem who_pl (w : World) : Calls Tryz.prog 75 #[] w fun e w' => Mod [] w w' ∧ ∃ u, e = .returned u ∧ PlVal w.heap.size .who u w' := by
  refine (who_made w).mono ?_
  rintro e w' ⟨hm, bn, nb, gn, gb, hn, hb, rfl⟩
  refine ⟨hm, _, rfl, _, _, _, _, rfl, fun _ _ => rfl, fun _ _ => rfl, ?_, ?_⟩
  · intro w2 hl2 x s b hx hbb hN
    have n1 := hn.lt
    have n2 := hb.lt
    have := who1_c x _ _ _ _ _ _ _ _ b bn nb w2 (by omega) (by omega) hbb (hl2.blk hn gn) (hl2.blk hb gb)
    rw [show (readP .who x s).map stC = (whoO x).map fun (n : Int) => (stC s).set 1 (.int .i64 n) by
      simp only [readP, whoO]
      split
      · rfl
      · split <;> rfl]
    exact this
  · intro w2 hl2 ht s hs
    exact who2_c s bn nb w2 (hl2.blk hn gn) (hl2.blk hb gb)
end
end Go.Proofs.YtibhkldnimfnkaaGreatDoor

/- Script: rows in memory; the table's region, operation by operation. -/
namespace Go.Proofs.YtibhkldnimfnkaaGreatDoor
section
set_option linter.unusedVariables false
set_option linter.unusedSimpArgs false
set_option linter.unusedSectionVars false
open Go.RowKit

/-- Places side by side in cells. -/
def PlsIn (N : Nat) : List Pl → List Value → World → Prop
  | [], c, _ => c = []
  | p :: l, c, w => ∃ f g c', c = f :: g :: c' ∧ PlVal N p (.agg #[f, g]) w ∧ PlsIn N l c' w
/-- A slice of places. -/
def PlsVal (N : Nat) (l : List Pl) (v : Value) (w : World) : Prop :=
  (l = [] ∧ v = .slice none 0 0) ∨ ∃ B c, N ≤ B ∧ v = .slice (some ⟨B, 0, none⟩) l.length l.length ∧ Blk w B c.toArray 99 ∧ PlsIn N l c w
def RwVal (N : Nat) (r : Rw) (v : Value) (w : World) : Prop := ∃ sl, v = .agg #[.string (str r.word), .int .i64 r.kind, .int .i64 r.ck, sl] ∧ PlsVal N r.pl sl w
/-- Rows side by side in cells. -/
def RwsIn (N : Nat) : List Rw → List Value → World → Prop
  | [], c, _ => c = []
  | r :: l, c, w => ∃ sl c', c = .string (str r.word) :: .int .i64 r.kind :: .int .i64 r.ck :: sl :: c' ∧ PlsVal N r.pl sl w ∧ RwsIn N l c' w
/-- The table. -/
def RwsVal (N : Nat) (v : Value) (w : World) : Prop := ∃ B c, N ≤ B ∧ v = .slice (some ⟨B, 0, none⟩) 18 18 ∧ Blk w B c.toArray 93 ∧ RwsIn N rowsL c w

theorem PlsIn.later {N : Nat} {w w' : World} (h : Later N w w') : ∀ {l : List Pl} {c : List Value}, PlsIn N l c w → PlsIn N l c w'
  | [], _, hc => hc
  | _ :: _, _, ⟨f, g, c', e, h1, h2⟩ => ⟨f, g, c', e, h1.later h, PlsIn.later h h2⟩
theorem PlsVal.later {N : Nat} {w w' : World} (h : Later N w w') {l : List Pl} {v : Value} (hv : PlsVal N l v w) : PlsVal N l v w' := by
  rcases hv with hv | ⟨B, c, hB, e, hb, hc⟩
  · exact .inl hv
  · exact .inr ⟨B, c, hB, e, h.blk hb hB, hc.later h⟩
theorem RwVal.later {N : Nat} {w w' : World} (h : Later N w w') {r : Rw} {v : Value} (hv : RwVal N r v w) : RwVal N r v w' := by
  obtain ⟨sl, e, h1⟩ := hv
  exact ⟨sl, e, h1.later h⟩
theorem RwsIn.later {N : Nat} {w w' : World} (h : Later N w w') : ∀ {l : List Rw} {c : List Value}, RwsIn N l c w → RwsIn N l c w'
  | [], _, hc => hc
  | _ :: _, _, ⟨sl, c', e, h1, h2⟩ => ⟨sl, c', e, h1.later h, RwsIn.later h h2⟩
theorem RwsVal.later {N : Nat} {w w' : World} (h : Later N w w') {v : Value} (hv : RwsVal N v w) : RwsVal N v w' := by
  obtain ⟨B, c, hB, e, hb, hc⟩ := hv
  exact ⟨B, c, hB, e, h.blk hb hB, hc.later h⟩

/-- What an operation of the table's region comes to. -/
inductive Sp where
  | pl (p : Pl)
  | pls (l : List Pl)
  | row (r : Rw)
  | all
  | any
def Sp.holds (N : Nat) : Sp → Value → World → Prop
  | .pl p, v, w => ∃ f g, v = .agg #[f, g] ∧ PlVal N p v w
  | .pls l, v, w => PlsVal N l v w
  | .row r, v, w => RwVal N r v w
  | .all, v, w => RwsVal N v w
  | .any, _, _ => True
theorem Sp.later {N : Nat} {w w' : World} (h : Later N w w') {s : Sp} {v : Value} (hv : s.holds N v w) : s.holds N v w' := by
  cases s with
  | pl p => obtain ⟨f, g, e, h1⟩ := hv; exact ⟨f, g, e, h1.later h⟩
  | pls l => exact PlsVal.later h hv
  | row r => exact RwVal.later h hv
  | all => exact RwsVal.later h hv
  | any => trivial
abbrev SV (N : Nat) (t : List Sp) : Nat → Value → World → Prop := fun i => (t[i]?.getD .any).holds N
abbrev SS (w1 : World) : World → Prop := fun W => Mod [] w1 W

set_option maxRecDepth 100000 in
theorem slice1_run (f g : Value) (W : World) : (Instr.buildSlice 91 1 #[(0, .agg #[f, g])]).run Tryz.prog W = .ok (.slice (some ⟨W.heap.size, 0, none⟩) 1 1) (W.alloc (.cells #[f, g] 99)) := by kernel_rfl
set_option maxRecDepth 100000 in
theorem slice2_run (f g f' g' : Value) (W : World) : (Instr.buildSlice 91 2 #[(0, .agg #[f, g]), (1, .agg #[f', g'])]).run Tryz.prog W = .ok (.slice (some ⟨W.heap.size, 0, none⟩) 2 2) (W.alloc (.cells #[f, g, f', g'] 99)) := by kernel_rfl
set_option maxRecDepth 100000 in
theorem slice3_run (f g f' g' f'' g'' : Value) (W : World) : (Instr.buildSlice 91 3 #[(0, .agg #[f, g]), (1, .agg #[f', g']), (2, .agg #[f'', g''])]).run Tryz.prog W = .ok (.slice (some ⟨W.heap.size, 0, none⟩) 3 3) (W.alloc (.cells #[f, g, f', g', f'', g''] 99)) := by kernel_rfl
set_option maxRecDepth 100000 in
theorem row_run (s : ByteArray) (k c : Int) (b : Option Addr) (n m : Nat) (W : World) : (Instr.build 93 #[(0, .string s), (1, .int .i64 k), (2, .int .i64 c), (3, .slice b n m)]).run Tryz.prog W = .ok (.agg #[.string s, .int .i64 k, .int .i64 c, .slice b n m]) W := by kernel_rfl

section
variable {ops : Array Oper} {Q : Exit → Act → World → Prop} {a0 : Act} {N : Nat} {w1 : World} {T : List Sp}

theorem step_load {i t b d : Nat} {f g : Value} {p : Pl} {o : Oper} (ho : o.op = .load 99 (.tmp t)) (hd : o.dst = some d) (h0 : a0.tmps[t]?.getD undef = .pointer (some ⟨b, 0, none⟩)) (hn : ops.toList.all (fun o => o.dst != some t) = true)
    (hb : Blk w1 b #[f, g] 99) (hp : PlVal N p (.agg #[f, g]) w1) (hs : T[i]? = some (.pl p)) : Step1 Tryz.prog ops Q (SS w1) (SV N T) a0 i o := by
  intro listed a W hR hall K hK
  have e := (hR.old' t hn).trans h0
  have hm : Mod [] w1 W := hR.world
  have c0 := (hm.blk hb (by simp)).cell 0
  have c1 := (hm.blk hb (by simp)).cell 1
  simp only [List.getElem?_toArray, List.getElem?_cons_zero, List.getElem?_cons_succ] at c0 c1
  refine Oper.wp_value (.agg #[f, g]) ?_ (hK _ _ hm ?_ (fun _ _ _ h => h))
  · unfold execOp
    rw [ho]
    simp [go_sem, e, c0, c1]
  · rw [hd]
    simp only [SV, hs, Option.getD_some]
    exact ⟨f, g, rfl, hp.later (Later.mod hm)⟩

theorem step_call {i d : Nat} {p : Pl} {o : Oper} (fn : FuncId) (args : Array Value) (hN : N ≤ w1.heap.size) (hrun : ∀ a W, (execOp (Act.eval a) o).run Tryz.prog W = .ok (.enter fn args) W) (hd : o.dst = some d)
    (hc : ∀ W, Calls Tryz.prog fn args W fun e w' => Mod [] W w' ∧ ∃ u, e = .returned u ∧ PlVal W.heap.size p u w') (hs : T[i]? = some (.pl p)) : Step1 Tryz.prog ops Q (SS w1) (SV N T) a0 i o := by
  intro listed a W hR hall K hK
  have hm : Mod [] w1 W := hR.world
  refine Oper.wp_call fn args (hrun a W) (hc W) ?_
  rintro e W' ⟨hm2, u, rfl, hp⟩
  refine hK _ _ (hm.tr hm2) ?_ (fun j v _ h => Sp.later (Later.mod hm2) h)
  rw [hd]
  simp only [SV, hs, Option.getD_some]
  have hp := hp.low (Nat.le_trans hN hm.size)
  obtain ⟨k1, c1, k2, c2, rfl, h⟩ := hp
  exact ⟨_, _, rfl, k1, c1, k2, c2, rfl, h⟩

theorem step_pls1 {i d j t : Nat} {p : Pl} {o oj : Oper} (hN : N ≤ w1.heap.size) (ho : o.op = .buildSlice 91 1 #[(0, .tmp t)]) (hd : o.dst = some d)
    (hj : ops[j]? = some oj) (hjd : oj.dst = some t) (hja : (⟨j, .data⟩ : Edge) ∈ o.after) (hjs : T[j]? = some (.pl p)) (hs : T[i]? = some (.pls [p])) : Step1 Tryz.prog ops Q (SS w1) (SV N T) a0 i o := by
  intro listed a W hR hall K hK
  have hm : Mod [] w1 W := hR.world
  have h1 := hR.val j hj hjd (hall _ hja rfl)
  simp only [SV, hjs, Option.getD_some] at h1
  obtain ⟨f, g, e, hp⟩ := h1
  have hl : Mod [] W (W.alloc (.cells #[f, g] 99)) := (Mod.refl [] W).alloc _
  refine Oper.wp_value (.slice (some ⟨W.heap.size, 0, none⟩) 1 1) (w' := W.alloc (.cells #[f, g] 99)) ?_ (hK _ _ (hm.tr hl) ?_ (fun _ _ _ h => Sp.later (Later.mod hl) h))
  · have := slice1_run f g W
    unfold execOp
    rw [ho]
    simp [go_sem, e, this]
  · rw [hd]
    simp only [SV, hs, Option.getD_some]
    rw [e] at hp
    exact .inr ⟨W.heap.size, [f, g], Nat.le_trans hN hm.size, rfl, Blk.new _ _ _, f, g, [], rfl, hp.later (Later.mod hl), rfl⟩

theorem step_pls2 {i d j j' t t' : Nat} {p p' : Pl} {o oj oj' : Oper} (hN : N ≤ w1.heap.size) (ho : o.op = .buildSlice 91 2 #[(0, .tmp t), (1, .tmp t')]) (hd : o.dst = some d)
    (hj : ops[j]? = some oj) (hjd : oj.dst = some t) (hja : (⟨j, .data⟩ : Edge) ∈ o.after) (hjs : T[j]? = some (.pl p))
    (hj' : ops[j']? = some oj') (hjd' : oj'.dst = some t') (hja' : (⟨j', .data⟩ : Edge) ∈ o.after) (hjs' : T[j']? = some (.pl p'))
    (hs : T[i]? = some (.pls [p, p'])) : Step1 Tryz.prog ops Q (SS w1) (SV N T) a0 i o := by
  intro listed a W hR hall K hK
  have hm : Mod [] w1 W := hR.world
  have h1 := hR.val j hj hjd (hall _ hja rfl)
  have h2 := hR.val j' hj' hjd' (hall _ hja' rfl)
  simp only [SV, hjs, hjs', Option.getD_some] at h1 h2
  obtain ⟨f, g, e, hp⟩ := h1
  obtain ⟨f', g', e', hp'⟩ := h2
  have hl : Mod [] W (W.alloc (.cells #[f, g, f', g'] 99)) := (Mod.refl [] W).alloc _
  refine Oper.wp_value (.slice (some ⟨W.heap.size, 0, none⟩) 2 2) (w' := W.alloc (.cells #[f, g, f', g'] 99)) ?_ (hK _ _ (hm.tr hl) ?_ (fun _ _ _ h => Sp.later (Later.mod hl) h))
  · have := slice2_run f g f' g' W
    unfold execOp
    rw [ho]
    simp [go_sem, e, e', this]
  · rw [hd]
    simp only [SV, hs, Option.getD_some]
    rw [e] at hp
    rw [e'] at hp'
    exact .inr ⟨W.heap.size, [f, g, f', g'], Nat.le_trans hN hm.size, rfl, Blk.new _ _ _, f, g, _, rfl, hp.later (Later.mod hl), f', g', [], rfl, hp'.later (Later.mod hl), rfl⟩

theorem step_pls3 {i d j j' j'' t t' t'' : Nat} {p p' p'' : Pl} {o oj oj' oj'' : Oper} (hN : N ≤ w1.heap.size) (ho : o.op = .buildSlice 91 3 #[(0, .tmp t), (1, .tmp t'), (2, .tmp t'')]) (hd : o.dst = some d)
    (hj : ops[j]? = some oj) (hjd : oj.dst = some t) (hja : (⟨j, .data⟩ : Edge) ∈ o.after) (hjs : T[j]? = some (.pl p))
    (hj' : ops[j']? = some oj') (hjd' : oj'.dst = some t') (hja' : (⟨j', .data⟩ : Edge) ∈ o.after) (hjs' : T[j']? = some (.pl p'))
    (hj'' : ops[j'']? = some oj'') (hjd'' : oj''.dst = some t'') (hja'' : (⟨j'', .data⟩ : Edge) ∈ o.after) (hjs'' : T[j'']? = some (.pl p''))
    (hs : T[i]? = some (.pls [p, p', p''])) : Step1 Tryz.prog ops Q (SS w1) (SV N T) a0 i o := by
  intro listed a W hR hall K hK
  have hm : Mod [] w1 W := hR.world
  have h1 := hR.val j hj hjd (hall _ hja rfl)
  have h2 := hR.val j' hj' hjd' (hall _ hja' rfl)
  have h3 := hR.val j'' hj'' hjd'' (hall _ hja'' rfl)
  simp only [SV, hjs, hjs', hjs'', Option.getD_some] at h1 h2 h3
  obtain ⟨f, g, e, hp⟩ := h1
  obtain ⟨f', g', e', hp'⟩ := h2
  obtain ⟨f'', g'', e'', hp''⟩ := h3
  have hl : Mod [] W (W.alloc (.cells #[f, g, f', g', f'', g''] 99)) := (Mod.refl [] W).alloc _
  refine Oper.wp_value (.slice (some ⟨W.heap.size, 0, none⟩) 3 3) (w' := W.alloc (.cells #[f, g, f', g', f'', g''] 99)) ?_ (hK _ _ (hm.tr hl) ?_ (fun _ _ _ h => Sp.later (Later.mod hl) h))
  · have := slice3_run f g f' g' f'' g'' W
    unfold execOp
    rw [ho]
    simp [go_sem, e, e', e'', this]
  · rw [hd]
    simp only [SV, hs, Option.getD_some]
    rw [e] at hp
    rw [e'] at hp'
    rw [e''] at hp''
    exact .inr ⟨W.heap.size, [f, g, f', g', f'', g''], Nat.le_trans hN hm.size, rfl, Blk.new _ _ _, f, g, _, rfl, hp.later (Later.mod hl), f', g', _, rfl, hp'.later (Later.mod hl), f'', g'', [], rfl, hp''.later (Later.mod hl), rfl⟩

theorem step_row0 {i d : Nat} {s : ByteArray} {k c : Int} {r : Rw} {o : Oper} (ho : o.op = .build 93 #[(0, .const (.string s)), (1, .const (.int .i64 k)), (2, .const (.int .i64 c)), (3, .const (.slice none 0 0))]) (hd : o.dst = some d)
    (hs : T[i]? = some (.row r)) (hr : str r.word = s) (hk : r.kind = k) (hc : r.ck = c) (hl : r.pl = []) : Step1 Tryz.prog ops Q (SS w1) (SV N T) a0 i o := by
  intro listed a W hR hall K hK
  have hm : Mod [] w1 W := hR.world
  refine Oper.wp_value (.agg #[.string s, .int .i64 k, .int .i64 c, .slice none 0 0]) (w' := W) ?_ (hK _ _ hm ?_ (fun _ _ _ h => h))
  · have := row_run s k c none 0 0 W
    unfold execOp
    rw [ho]
    simp [go_sem, this]
  · rw [hd]
    simp only [SV, hs, Option.getD_some]
    exact ⟨.slice none 0 0, by rw [hr, hk, hc], .inl ⟨hl, rfl⟩⟩

theorem step_row {i d j t : Nat} {s : ByteArray} {k c : Int} {r : Rw} {o oj : Oper} (ho : o.op = .build 93 #[(0, .const (.string s)), (1, .const (.int .i64 k)), (2, .const (.int .i64 c)), (3, .tmp t)]) (hd : o.dst = some d)
    (hj : ops[j]? = some oj) (hjd : oj.dst = some t) (hja : (⟨j, .data⟩ : Edge) ∈ o.after) {l : List Pl} (hjs : T[j]? = some (.pls l))
    (hs : T[i]? = some (.row r)) (hr : str r.word = s) (hk : r.kind = k) (hc : r.ck = c) (hl : r.pl = l) : Step1 Tryz.prog ops Q (SS w1) (SV N T) a0 i o := by
  intro listed a W hR hall K hK
  have hm : Mod [] w1 W := hR.world
  have h1 := hR.val j hj hjd (hall _ hja rfl)
  simp only [SV, hjs, Option.getD_some] at h1
  obtain ⟨b, n, m, e⟩ : ∃ b n m, a.tmps[t]?.getD undef = .slice b n m := by
    rcases h1 with ⟨_, e⟩ | ⟨B, c, _, e, _⟩
    · exact ⟨_, _, _, e⟩
    · exact ⟨_, _, _, e⟩
  refine Oper.wp_value (.agg #[.string s, .int .i64 k, .int .i64 c, .slice b n m]) (w' := W) ?_ (hK _ _ hm ?_ (fun _ _ _ h => h))
  · have := row_run s k c b n m W
    unfold execOp
    rw [ho]
    simp [go_sem, e, this]
  · rw [hd]
    simp only [SV, hs, Option.getD_some]
    refine ⟨.slice b n m, by rw [hr, hk, hc], ?_⟩
    rw [← e, hl]
    exact h1
end
end
end Go.Proofs.YtibhkldnimfnkaaGreatDoor
