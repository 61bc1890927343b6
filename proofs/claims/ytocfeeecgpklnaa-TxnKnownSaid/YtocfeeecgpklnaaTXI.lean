/- New, State, Ts, told. -/
import Derived.Test.YtocfeeecgpklnaaTXH
import Derived.Laws.ResultCell
namespace Go.Proofs.Ytocfeeecgpklnaa
set_option linter.unusedVariables false
set_option linter.unusedSimpArgs false
set_option linter.unusedSectionVars false
open Go.RowKit Go.Shelf

/-- An outcome. -/
structure Oc where
  ts : Nat
  n : Int
  err : Int
  found : Bool
  val : ByteArray
  pa : Option Addr
  pl : Nat
  pc : Nat
abbrev ocV (o : Oc) : Value := .agg #[.int .u64 o.ts, .int .i64 o.n, .int .i64 o.err, .bool o.found, .string o.val, (.slice o.pa o.pl o.pc)]
abbrev oc0 : Oc := ⟨0, 0, 0, false, ⟨#[]⟩, none, 0, 0⟩
theorem oc_info : (Try.prog.info? 54).map (·.size) = some 6 := by kernel_rfl
abbrev ocC (o : Oc) : Array Value := #[.int .u64 o.ts, .int .i64 o.n, .int .i64 o.err, .bool o.found, .string o.val, .slice o.pa o.pl o.pc]
/-- The result in a block of its own. -/
theorem res_oc {fn : Func} {p : Tmp} (h : fn.results = #[.cell p 54]) (tmps : Array Value) (w : World) (g : Nat) (o : Oc) (hp : tmps.getD p undef = .pointer (some ⟨g, 0, none⟩)) (hg : Blk w g (ocC o) 54) :
    (results fn tmps).run Try.prog w = .ok (ocV o) w :=
  results_cell_row h tmps w g _ (ocC o) (0, 0) _ hp hg Try.underlying54 rfl oc_info
theorem res_oc2 {fn : Func} {p u : Tmp} (h : fn.results = #[.cell p 54, .tmp u]) (tmps : Array Value) (w : World) (g : Nat) (o : Oc) (hp : tmps.getD p undef = .pointer (some ⟨g, 0, none⟩)) (hg : Blk w g (ocC o) 54) :
    (results fn tmps).run Try.prog w = .ok (.tuple #[ocV o, tmps.getD u undef]) w := by
  rw [results_cell_tmp h, hp]
  show ((loadVar 54 ⟨g, 0, none⟩).run Try.prog w).andThen _ = _
  rw [run_loadVar_row w g _ _ (ocC o) (0, 0) _ hg Try.underlying54 rfl oc_info]
  rfl
def toldO (t : Tx) (o : Oc) : Oc := { o with ts := t.ts, n := t.calls }
def tx0 (ts now : Nat) : Tx := ⟨ts, now, 0, 0, 0, false, ⟨0, 0, ⟨#[]⟩, ⟨#[]⟩, ⟨#[]⟩⟩, []⟩

theorem txR.here {w w' : World} {b : Nat} {t' : Tx} {v : Value} {M : List Nat} {c : Array Value} (hb : Blk w' b c 71) (hc : c = txC t' v) (ho : Own w 32 4 v t'.ops.length (flat rcC t'.ops) M) (hbM : b ∉ M) (hm : Mod [b] w w') : txR b t' w' (b :: M) :=
  ⟨v, M, hc ▸ hb, ho.mod hm (fun k hk => by simp; intro h; exact hbM (h ▸ hk)), hbM, rfl⟩

set_option maxRecDepth 100000 in
theorem new_nil (w : World) (now : Nat) : Calls Try.prog 8 #[.int .u64 0, .int .u64 now] w fun e w' => e = .returned (.pointer none) ∧ w = w' := by
  go_enter Try.func8, Try.ntmps8
  go_wp2
  go_ret
  exact ⟨rfl, rfl⟩

set_option maxRecDepth 100000 in
theorem new_c (w : World) (ts now : Nat) (h : ts ≠ 0) : Calls Try.prog 8 #[.int .u64 ts, .int .u64 now] w (Says w [] (.pointer (some ⟨w.heap.size, 0, none⟩)) (txR w.heap.size (tx0 ts now))) := by
  have h0 : ((ts : Int) == 0) = false := beq_eq_false_iff_ne.2 (by omega)
  clear h
  have HB := hid (Blk.new w (txC (tx0 ts now) (.slice none 0 0)) 71)
  have HM := hid ((Mod.refl [] w).alloc (.cells (txC (tx0 ts now) (.slice none 0 0)) 71))
  go_enter Try.func8, Try.ntmps8
  go_wp2
  go_ret
  exact ⟨rfl, [w.heap.size], ⟨_, [], HB.out, Own.nil _ _ _, by simp, rfl⟩, HM.out, fun k hk => by right; simp at hk; omega⟩

set_option maxRecDepth 100000 in
theorem state_c (w : World) (b : Nat) (t : Tx) (L : List Nat) (h : txR b t w L) : Calls Try.prog 14 #[.pointer (some ⟨b, 0, none⟩)] w fun e w' => e = .returned (.int .i64 t.state) ∧ w = w' := by
  obtain ⟨v, M, hb, ho, hbM, rfl⟩ := h
  have hbl := hb.lt
  have b3 : w.cell? ⟨b, 3, none⟩ = some (.int .i64 t.state) := hb.cell 3
  go_enter Try.func14, Try.ntmps14
  go_wp2
  go_ret
  exact ⟨rfl, rfl⟩
set_option maxRecDepth 100000 in
theorem ts_c (w : World) (b : Nat) (t : Tx) (L : List Nat) (h : txR b t w L) : Calls Try.prog 24 #[.pointer (some ⟨b, 0, none⟩)] w fun e w' => e = .returned (.int .u64 t.ts) ∧ w = w' := by
  obtain ⟨v, M, hb, ho, hbM, rfl⟩ := h
  have hbl := hb.lt
  have b3 : w.cell? ⟨b, 0, none⟩ = some (.int .u64 t.ts) := hb.cell 0
  go_enter Try.func24, Try.ntmps24
  go_wp2
  go_ret
  exact ⟨rfl, rfl⟩

set_option maxRecDepth 100000 in
theorem told_c (w : World) (b : Nat) (t : Tx) (o : Oc) (L : List Nat) (h : txR b t w L) :
    Calls Try.prog 48 #[.pointer (some ⟨b, 0, none⟩), ocV o] w (Says w L (ocV (toldO t o)) (txR b { t with under := false })) := by
  obtain ⟨v, M, hb, ho, hbM, rfl⟩ := h
  have hbl := hb.lt
  have b0 : w.cell? ⟨b, 0, none⟩ = some (.int .u64 t.ts) := hb.cell 0
  have b4 : w.cell? ⟨b, 4, none⟩ = some (.int .i64 t.calls) := hb.cell 4
  have b5 : w.cell? ⟨b, 5, none⟩ = some (.bool t.under) := hb.cell 5
  have f5 := hb.free 5
  have HB := hid hb
  have HO := hid ho
  clear hb ho
  go_enter Try.func48, Try.ntmps48
  go_upto_region 2 with (fail)
  go_region
  all_goals go_wp2
  have HB5 := (((HB.out.set 5 (.bool false)).alloc (.cells (ocC (toldO t o)) 54)).alloc (.cells (ocC (toldO t o)) 54)).drew
  have HM5 := ((((Mod.refl [b] w).setCell (p := ⟨b, 5, none⟩) (Or.inl (by simp)) (.bool false)).alloc (.cells (ocC (toldO t o)) 54)).alloc (.cells (ocC (toldO t o)) 54)).drew
  have HR := Blk.new ((w.setCell ⟨b, 5, none⟩ (.bool false)).alloc (.cells (ocC (toldO t o)) 54)) (ocC (toldO t o)) 54
  have hz : ((w.setCell ⟨b, 5, none⟩ (.bool false)).alloc (.cells (ocC (toldO t o)) 54)).heap.size = w.heap.size + 1 := by simp
  rw [hz] at HR
  all_goals (try simp only [Exit.inBlock, Exit.then])
  refine bodyPost_ret (res_oc rfl _ _ (w.heap.size + 1) (toldO t o) rfl HR.drew) rfl ?_
  exact ⟨rfl, b :: M, txR.here HB5 rfl HO.out hbM HM5, HM5.mono (by simp), fun k hk => Or.inl hk⟩
end Go.Proofs.Ytocfeeecgpklnaa
