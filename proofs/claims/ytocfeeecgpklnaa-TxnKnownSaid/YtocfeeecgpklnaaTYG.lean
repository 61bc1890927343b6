/- What the operations of TxnPlays' great region run to, each alone. -/
import Derived.Test.YtocfeeecgpklnaaTYB
import Derived.Test.YtocfeeecgpklnaaDET
import Derived.IntWalk
namespace Go.Proofs.Ytocfeeecgpklnaa
set_option linter.unusedVariables false
set_option linter.unusedSimpArgs false
set_option linter.unusedSectionVars false
open Go.RowKit Go.Shelf

def nthV : List Value → Nat → Value
  | [], _ => undef
  | v :: _, 0 => v
  | _ :: l, n + 1 => nthV l n

section
variable {ρ : Operand → Value} {o : Oper} {x y : Operand} {u v : Value} {T : Array TypeId} {w : World}
theorem run_call_24 (h : o.op = .call ⟨.value (.func 24), #[x], T⟩) (hf : ρ (.func 24) = .func (.func 24) #[] #[]) (hx : ρ x = v) : (execOp ρ o).run Try.prog w = .ok (.enter 24 #[v]) w := by
  unfold execOp; rw [h]; simp [resolve, invoke, Deferred.ofValue, hf, hx, go_sem]
theorem run_call_14 (h : o.op = .call ⟨.value (.func 14), #[x], T⟩) (hf : ρ (.func 14) = .func (.func 14) #[] #[]) (hx : ρ x = v) : (execOp ρ o).run Try.prog w = .ok (.enter 14 #[v]) w := by
  unfold execOp; rw [h]; simp [resolve, invoke, Deferred.ofValue, hf, hx, go_sem]
theorem run_call_17 (h : o.op = .call ⟨.value (.func 17), #[x], T⟩) (hf : ρ (.func 17) = .func (.func 17) #[] #[]) (hx : ρ x = v) : (execOp ρ o).run Try.prog w = .ok (.enter 17 #[v]) w := by
  unfold execOp; rw [h]; simp [resolve, invoke, Deferred.ofValue, hf, hx, go_sem]
theorem run_call_26 (h : o.op = .call ⟨.value (.func 26), #[x, y], T⟩) (hf : ρ (.func 26) = .func (.func 26) #[] #[]) (hx : ρ x = u) (hy : ρ y = v) : (execOp ρ o).run Try.prog w = .ok (.enter 26 #[u, v]) w := by
  unfold execOp; rw [h]; simp [resolve, invoke, Deferred.ofValue, hf, hx, hy, go_sem]
theorem run_call_27 (h : o.op = .call ⟨.value (.func 27), #[x, y], T⟩) (hf : ρ (.func 27) = .func (.func 27) #[] #[]) (hx : ρ x = u) (hy : ρ y = v) : (execOp ρ o).run Try.prog w = .ok (.enter 27 #[u, v]) w := by
  unfold execOp; rw [h]; simp [resolve, invoke, Deferred.ofValue, hf, hx, hy, go_sem]
theorem run_call_28 (h : o.op = .call ⟨.value (.func 28), #[x, y], T⟩) (hf : ρ (.func 28) = .func (.func 28) #[] #[]) (hx : ρ x = u) (hy : ρ y = v) : (execOp ρ o).run Try.prog w = .ok (.enter 28 #[u, v]) w := by
  unfold execOp; rw [h]; simp [resolve, invoke, Deferred.ofValue, hf, hx, hy, go_sem]
theorem run_call_29 (h : o.op = .call ⟨.value (.func 29), #[x, y], T⟩) (hf : ρ (.func 29) = .func (.func 29) #[] #[]) (hx : ρ x = u) (hy : ρ y = v) : (execOp ρ o).run Try.prog w = .ok (.enter 29 #[u, v]) w := by
  unfold execOp; rw [h]; simp [resolve, invoke, Deferred.ofValue, hf, hx, hy, go_sem]
theorem run_call_25 (h : o.op = .call ⟨.value (.func 25), #[x, y], T⟩) (hf : ρ (.func 25) = .func (.func 25) #[] #[]) (hx : ρ x = u) (hy : ρ y = v) : (execOp ρ o).run Try.prog w = .ok (.enter 25 #[u, v]) w := by
  unfold execOp; rw [h]; simp [resolve, invoke, Deferred.ofValue, hf, hx, hy, go_sem]
end

theorem run_neqI {w : World} {x y : Operand} {a : Int} {k : IntKind} {t : TypeId} : ((do eqGuard .neq t x y (.int k a) (.int k a); binOp .neq t (.int k a) (.int k a)) : Sem Value).run Try.prog w = .ok (.bool false) w := by
  simp [go_sem]
theorem run_neqB {w : World} {x y : Operand} {a : Bool} : ((do eqGuard .neq 4 x y (.bool a) (.bool a); binOp .neq 4 (.bool a) (.bool a)) : Sem Value).run Try.prog w = .ok (.bool false) w := by
  simp [go_sem]
theorem run_rem70 {w : World} {x y : Operand} {n : Nat} : ((do eqGuard .rem 22 x y (.int .u64 n) (.int .u64 70); binOp .rem 22 (.int .u64 n) (.int .u64 70)) : Sem Value).run Try.prog w = .ok (.int .u64 (n % 70 : Nat)) w := by
  simp [go_sem]
  rw [Int.tmod_eq_emod_of_nonneg (by omega)]
theorem run_addN {w : World} {x y : Operand} {m n : Nat} (h : m + n < 18446744073709551616) : ((do eqGuard .add 22 x y (.int .u64 m) (.int .u64 n); binOp .add 22 (.int .u64 m) (.int .u64 n)) : Sem Value).run Try.prog w = .ok (.int .u64 (m + n : Nat)) w := by
  simp [go_sem]
  exact IntWalk.u64_in _ (by omega)
theorem run_call_neq {w : World} {x y : Operand} (c : Cl) : ((do eqGuard .neq 24 x y (clV c) (clV c); binOp .neq 24 (clV c) (clV c)) : Sem Value).run Try.prog w = .ok (.bool false) w := by
  have h1 := call_neq c w
  have h2 := call_g
  simp [eqGuard, go_sem, h2, Result.andThen] at h1 ⊢
theorem run_load_1 {w : World} {p : Addr} {v : Value} (t : TypeId) (ha : (isAgg t).run Try.prog w = .ok false w) (h : w.cell? p = some v) : (Instr.loadAt t (.pointer (some p))).run Try.prog w = .ok v w := by
  simp [Instr.loadAt, loadVar, Instr.sureAddr, ha, go_sem, h, Result.andThen]
theorem run_load_u {w : World} {p : Addr} {v : Value} (h : w.cell? p = some v) : (Instr.loadAt 22 (.pointer (some p))).run Try.prog w = .ok v w := by
  simp [go_sem, Instr.loadAt, h]
theorem run_load_i {w : World} {p : Addr} {v : Value} (h : w.cell? p = some v) : (Instr.loadAt 3 (.pointer (some p))).run Try.prog w = .ok v w := by
  simp [go_sem, Instr.loadAt, h]
theorem run_load_b {w : World} {p : Addr} {v : Value} (h : w.cell? p = some v) : (Instr.loadAt 4 (.pointer (some p))).run Try.prog w = .ok v w := by
  simp [go_sem, Instr.loadAt, h]
theorem run_load_s {w : World} {p : Addr} {v : Value} (h : w.cell? p = some v) : (Instr.loadAt 39 (.pointer (some p))).run Try.prog w = .ok v w := by
  simp [go_sem, Instr.loadAt, h]
theorem run_load_call {w : World} {g k : Nat} {c : Cl} (h0 : w.cell? ⟨g, k, none⟩ = some (.int .i64 c.kind)) (h1 : w.cell? ⟨g, k + 1, none⟩ = some (.int .u64 c.ts)) (h2 : w.cell? ⟨g, k + 2, none⟩ = some (.string c.key)) (h3 : w.cell? ⟨g, k + 3, none⟩ = some (.string c.hi)) (h4 : w.cell? ⟨g, k + 4, none⟩ = some (.string c.val)) :
    (Instr.loadAt 24 (.pointer (some ⟨g, k, none⟩))).run Try.prog w = .ok (clV c) w := by
  simp [go_sem, Instr.loadAt, h0, h1, h2, h3, h4, Result.andThen]
theorem run_build0 {ρ : Operand → Value} {o : Oper} {w : World} (h : o.op = .build 24 #[]) : (execOp ρ o).run Try.prog w = .ok (.value (clV cl0)) w := by
  unfold execOp; rw [h]; simp [go_sem, Instr.build, Result.andThen]
theorem run_ix {w : World} {a off n i cap : Nat} (h : i < n) : (Instr.indexAt 49 (.slice (some ⟨a, off, none⟩) n cap) (.int .i64 i)).run Try.prog w = .ok (.pointer (some ⟨a, off + i * 12, none⟩)) w := by
  simp [go_sem, Instr.indexAt]
  intro h'; omega
end Go.Proofs.Ytocfeeecgpklnaa
