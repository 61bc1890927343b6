/- The document's transaction: New, has, over, room. -/
import Derived.Test.YtocfeeecgpklnaaTXL
import Derived.OwnWalk
namespace Go.Proofs.Ytocfeeecgpklnaa
set_option linter.unusedVariables false
set_option linter.unusedSimpArgs false
set_option linter.unusedSectionVars false
open Go.RowKit Go.Shelf

def rxC (t : Tx) (v : Value) : Array Value := #[.int .u64 t.ts, .int .i64 t.state, .int .i64 t.calls, .bool t.under, .int .i64 t.call.kind, .int .u64 t.call.ts, .string t.call.key, .string t.call.hi, .string t.call.val, .int .u64 t.at_, v, .int .u64 t.need]
/-- The document's transaction. -/
def rxR (b : Nat) (t : Tx) : Res := fun w L => ∃ v M, Blk w b (rxC t v) 41 ∧ Own w 32 4 v t.ops.length (flat rcC t.ops) M ∧ b ∉ M ∧ L = b :: M
instance (b : Nat) (t : Tx) : Keep (rxR b t) where
  lt := by
    rintro w L ⟨v, M, h1, h2, _, rfl⟩ k hk
    rcases List.mem_cons.1 hk with rfl | hk
    · exact h1.lt
    · exact h2.lt k hk
  mod := by
    rintro w w' L M ⟨v, N, h1, h2, h3, rfl⟩ hm hd
    exact ⟨v, N, hm.blk h1 (hd _ (by simp)), h2.mod hm (fun k hk => hd k (by simp [hk])), h3, rfl⟩
theorem rxR.here {w w' : World} {b : Nat} {t' : Tx} {v : Value} {M : List Nat} {c : Array Value} (hb : Blk w' b c 41) (hc : c = rxC t' v) (ho : Own w 32 4 v t'.ops.length (flat rcC t'.ops) M) (hbM : b ∉ M) (hm : Mod [b] w w') : rxR b t' w' (b :: M) :=
  ⟨v, M, hc ▸ hb, ho.mod hm (fun k hk => by simp; intro h; exact hbM (h ▸ hk)), hbM, rfl⟩

set_option maxRecDepth 100000 in
theorem rnew_nil (w : World) (now : Nat) : Calls Try.prog 9 #[.int .u64 0, .int .u64 now] w fun e w' => e = .returned (.pointer none) ∧ w = w' := by
  go_enter Try.func9, Try.ntmps9
  go_wp2
  go_ret
  exact ⟨rfl, rfl⟩

set_option maxRecDepth 100000 in
theorem rnew_c (w : World) (ts now : Nat) (h : ts ≠ 0) : Calls Try.prog 9 #[.int .u64 ts, .int .u64 now] w (Says w [] (.pointer (some ⟨w.heap.size, 0, none⟩)) (rxR w.heap.size (tx0 ts now))) := by
  have h0 : ((ts : Int) == 0) = false := beq_eq_false_iff_ne.2 (by omega)
  clear h
  have HB := hid (Blk.new w (rxC (tx0 ts now) (.slice none 0 0)) 41)
  have HM := hid ((Mod.refl [] w).alloc (.cells (rxC (tx0 ts now) (.slice none 0 0)) 41))
  go_enter Try.func9, Try.ntmps9
  go_wp2
  go_ret
  exact ⟨rfl, [w.heap.size], ⟨_, [], HB.out, Own.nil _ _ _, by simp, rfl⟩, HM.out, fun k hk => by right; simp at hk; omega⟩

theorem results_tmp4 {fn : Func} {t u v x : Tmp} (h : fn.results = #[.tmp t, .tmp u, .tmp v, .tmp x]) (tmps : Array Value) (P : Program) (w : World) :
    (results fn tmps).run P w = .ok (.tuple #[tmps.getD t undef, tmps.getD u undef, tmps.getD v undef, tmps.getD x undef]) w := by
  simp [results, h, Sem.run_bind, Result.andThen]

def isH (k : Int) : Bool := decide (1 ≤ k) && decide (k ≤ 6)
set_option maxRecDepth 100000 in
theorem has_c (w : World) (k : Int) : Calls Try.prog 40 #[.int .i64 k] w fun e w' => e = .returned (.tuple #[.bool (keyH k), .bool (hiH k), .bool (valH k), .bool (isH k)]) ∧ w = w' := by
  by_cases h : k = 1 ∨ k = 2 ∨ k = 3 ∨ k = 4 ∨ k = 5 ∨ k = 6
  · rcases h with rfl | rfl | rfl | rfl | rfl | rfl <;> (go_enter Try.func40, Try.ntmps40; go_wp2; (try simp only [Exit.inBlock, Exit.then]); refine bodyPost_ret (results_tmp4 rfl _ _ _) rfl ⟨rfl, rfl⟩)
  · have e1 : (k == 1) = false := beq_eq_false_iff_ne.2 (by omega)
    have e2 : (k == 2) = false := beq_eq_false_iff_ne.2 (by omega)
    have e3 : (k == 3) = false := beq_eq_false_iff_ne.2 (by omega)
    have e4 : (k == 4) = false := beq_eq_false_iff_ne.2 (by omega)
    have e5 : (k == 5) = false := beq_eq_false_iff_ne.2 (by omega)
    have e6 : (k == 6) = false := beq_eq_false_iff_ne.2 (by omega)
    have e7 : Hid (isH k = false) := by show _ = _; simp [isH]; omega
    have E : Hid (keyH k = false ∧ hiH k = false ∧ valH k = false) := by show _ ∧ _; simp [keyH, hiH, valH, e1, e2, e3, e4]
    clear h
    go_enter Try.func40, Try.ntmps40
    go_wp2
    try simp only [Exit.inBlock, Exit.then]
    refine bodyPost_ret (results_tmp4 rfl _ _ _) rfl ⟨?_, rfl⟩
    rw [e7.out, E.out.1, E.out.2.1, E.out.2.2]; rfl

set_option maxRecDepth 100000 in
theorem over_c (w : World) (b : Nat) (t : Tx) (L : List Nat) (h : rxR b t w L) : Calls Try.prog 39 #[.pointer (some ⟨b, 0, none⟩)] w fun e w' => e = .returned (.bool (overB t)) ∧ w = w' := by
  obtain ⟨v, M, hb, ho, hbM, rfl⟩ := h
  have hbl := hb.lt
  have b1 : w.cell? ⟨b, 1, none⟩ = some (.int .i64 t.state) := hb.cell 1
  by_cases h4 : t.state = 4
  · rw [h4] at b1
    have e : Hid (overB t = true) := by show _ = _; simp [overB, h4]
    clear h4
    go_enter Try.func39, Try.ntmps39
    go_wp2
    go_ret
    exact ⟨by rw [e.out]; rfl, rfl⟩
  · have e4 : ((t.state : Int) == 4) = false := beq_eq_false_iff_ne.2 (by omega)
    by_cases h5 : t.state = 5
    · rw [h5] at b1
      have e : Hid (overB t = true) := by show _ = _; simp [overB, h5]
      clear h4 h5 e4
      go_enter Try.func39, Try.ntmps39
      go_wp2
      go_ret
      exact ⟨by rw [e.out]; rfl, rfl⟩
    · have e5 : ((t.state : Int) == 5) = false := beq_eq_false_iff_ne.2 (by omega)
      have e : Hid (overB t = false) := by show _ = _; simp [overB, h4, h5]
      clear h4 h5
      go_enter Try.func39, Try.ntmps39
      go_wp2
      go_ret
      exact ⟨by rw [e.out]; rfl, rfl⟩
end Go.Proofs.Ytocfeeecgpklnaa
