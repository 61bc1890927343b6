/- Script: parts YU YV YP2. -/
import Derived.Test.YtibhkldnimfnkaaGreatDoorG14
import Derived.WalkKit
import Derived.LaidEql
import Derived.Stop.Asserts
import Derived.RowKitTokens

/- Script: errors.As at a *api.Fault (lines of the guide's worked proof ToyasAs, turned to this program by mkYU.py). -/
namespace Go.Proofs.YtibhkldnimfnkaaGreatDoor
section
set_option linter.unusedVariables false
set_option linter.unusedSimpArgs false
set_option linter.unusedSectionVars false
open Go.RowKit Go.Extern.Stop Go.Stop Go.Extern
set_option maxRecDepth 100000
/-- errors.As(nil, target). -/
theorem as_nil (t : Value) (w : World) :
    Calls Tryz.prog 26 #[.nilIface, t] w fun e w' => e = .returned (.bool false) ∧ w' = w := by
  go_enter Tryz.func26, Tryz.ntmps26
  go_wp2
  go_ret
  exact ⟨rfl, rfl⟩


theorem as_valueOf27 (t : Addr) (w : World) : (ReflectliteValue.unpack (.iface 66 (.pointer (some t)))).run Tryz.prog w
    = .ok (.agg #[.pointer (some ⟨9, 66, none⟩), .pointer (some ⟨w.heap.size, 0, none⟩), .int .u64 150]) (w.alloc (.cells #[.pointer (some t)] 66)) := by kernel_rfl
theorem as_type27 (a : Addr) (w : World) : (ReflectliteValue.methodAny (ReflectliteValue.valueError "reflectlite.Value.Type" 0) (fun t _ _ _ => ReflectliteType.toType t) #[.agg #[.pointer (some ⟨9, 66, none⟩), .pointer (some a), .int .u64 150]]).run Tryz.prog w
    = .ok (.iface 147 (.agg #[.pointer (some ⟨9, 66, none⟩)])) w := by kernel_rfl
theorem as_methodKind (h : Value) (w : World) : (Go.method 421 147 (.agg #[h]) "Kind").run Tryz.prog w = .ok (200, h) w := by kernel_rfl
theorem as_kind27 (w : World) : ((ReflectliteType.abiMethod fun t => (fun a : Nat => Value.int IntKind.u8 (a : Int)) <$> Rtype.kind t) #[.pointer (some ⟨9, 66, none⟩)]).run Tryz.prog w = .ok (.int .u8 22) w := by kernel_rfl
theorem as_kind25 (w : World) : ((ReflectliteType.abiMethod fun t => (fun a : Nat => Value.int IntKind.u8 (a : Int)) <$> Rtype.kind t) #[.pointer (some ⟨9, 62, none⟩)]).run Tryz.prog w = .ok (.int .u8 22) w := by kernel_rfl


theorem as_rlm (z : Sem Value) (f : TypeId → Addr → Nat → Nat → Sem Value) (v : Value) :
    ReflectliteValue.method z f #[v] = (do match ← ReflectliteValue.parts v with | none => z | some (t, a, fl) => f t a fl (fl % 32)) := rfl
theorem as_parts27 (a : Addr) (w : World) : (ReflectliteValue.parts (.agg #[.pointer (some ⟨9, 66, none⟩), .pointer (some a), .int .u64 150])).run Tryz.prog w = .ok (some (66, a, 150)) w := by kernel_rfl
/-- (Value).IsNil at the Value of a **p.E that is not nil. -/
theorem as_isNil27 (a p : Addr) (W : World) (ha : W.cell? a = some (.pointer (some p))) :
    (ReflectliteValue.method (ReflectliteValue.valueError "reflectlite.Value.IsNil" 0) ReflectliteValue.isNil #[.agg #[.pointer (some ⟨9, 66, none⟩), .pointer (some a), .int .u64 150]]).run Tryz.prog W = .ok (.bool false) W := by
  rw [as_rlm]
  simp only [Sem.run_bind, as_parts27, Result.andThen]
  simp [ReflectliteValue.isNil, loadVar, isAgg, underlying, Tryz.underlying66, ha, Result.andThen]

theorem as_methodElem (h : Value) (w : World) : (Go.method 421 147 (.agg #[h]) "Elem").run Tryz.prog w = .ok (213, .agg #[h]) w := by kernel_rfl
theorem as_methodImplements (h : Value) (w : World) : (Go.method 421 147 (.agg #[h]) "Implements").run Tryz.prog w = .ok (214, .agg #[h]) w := by kernel_rfl
theorem as_methodAssignableTo (h : Value) (w : World) : (Go.method 421 147 (.agg #[h]) "AssignableTo").run Tryz.prog w = .ok (211, .agg #[h]) w := by kernel_rfl
theorem as_elem27 (w : World) : (ReflectliteType.method ReflectliteType.elem #[.agg #[.pointer (some ⟨9, 66, none⟩)]]).run Tryz.prog w = .ok (.iface 147 (.agg #[.pointer (some ⟨9, 62, none⟩)])) w := by kernel_rfl
theorem as_implements25 (w : World) : (ReflectliteType.relation "Implements" ReflectliteType.implements_ #[.agg #[.pointer (some ⟨9, 62, none⟩)], .iface 147 (.agg #[.pointer (some ⟨9, 24, none⟩)])]).run Tryz.prog w = .ok (.bool true) w := by kernel_rfl
theorem as_typeOf25 (v : Value) (w : World) : (ReflectliteType.typeOf #[.iface 62 v]).run Tryz.prog w = .ok (.iface 147 (.agg #[.pointer (some ⟨9, 62, none⟩)])) w := by kernel_rfl
theorem as_assignable25 (w : World) : (ReflectliteType.relation "AssignableTo" ReflectliteType.assignableTo #[.agg #[.pointer (some ⟨9, 62, none⟩)], .iface 147 (.agg #[.pointer (some ⟨9, 62, none⟩)])]).run Tryz.prog w = .ok (.bool true) w := by kernel_rfl
theorem as_valueOf25 (e : Addr) (w : World) : (ReflectliteValue.unpack (.iface 62 (.pointer (some e)))).run Tryz.prog w
    = .ok (.agg #[.pointer (some ⟨9, 62, none⟩), .pointer (some ⟨w.heap.size, 0, none⟩), .int .u64 150]) (w.alloc (.cells #[.pointer (some e)] 62)) := by kernel_rfl

theorem as_elemOf27 (w : World) : (Rtype.elem? 66).run Tryz.prog w = .ok (some 62) w := by kernel_rfl
theorem as_mk25 (p : Addr) (w : World) : (ReflectliteValue.mk 62 p ReflectliteValue.flagAddr).run Tryz.prog w = .ok (.agg #[.pointer (some ⟨9, 62, none⟩), .pointer (some p), .int .u64 406]) w := by kernel_rfl
/-- (Value).Elem at the Value of a **p.E that is not nil: the Value of the *p.E variable that it points to, addressable. -/
theorem as_elemV27 (a p : Addr) (W : World) (ha : W.cell? a = some (.pointer (some p))) :
    (ReflectliteValue.method (ReflectliteValue.valueError "reflectlite.Value.Elem" 0) ReflectliteValue.elem #[.agg #[.pointer (some ⟨9, 66, none⟩), .pointer (some a), .int .u64 150]]).run Tryz.prog W
      = .ok (.agg #[.pointer (some ⟨9, 62, none⟩), .pointer (some p), .int .u64 406]) W := by
  rw [as_rlm]
  simp only [Sem.run_bind, as_parts27, Result.andThen]
  simp [ReflectliteValue.elem, loadVar, isAgg, underlying, Tryz.underlying66, ha, Result.andThen, as_elemOf27, as_mk25]
theorem as_rls (v x : Value) : ReflectliteValue.set #[v, x] = (do
    let (some (dst, a, fl), some (src, b, _)) := (← ReflectliteValue.parts v, ← ReflectliteValue.parts x)
      | unsupported (.noEntry "extern/(internal/reflectlite.Value).Set.zeroValue")
    if fl / ReflectliteValue.flagAddr % 2 == 0 then unsupported (.noEntry "extern/(internal/reflectlite.Value).Set.unaddressable")
    let val ← loadVar src b
    if ← Rtype.directlyAssignable dst src then storeVar dst a val
    else if ← Rtype.implements dst src then
      if (← Rtype.kind src) == 20 then
        match val with
        | .nilIface => unsupported (.noEntry "extern/reflectlite: a nil value of one interface type handed on as a value of another")
        | _ => storeVar dst a val
      else storeVar dst a (.iface src val)
    else panicString ("reflectlite.Set: value of type " ++ (← Rtype.spelt src) ++ " is not assignable to type " ++ (← Rtype.spelt dst))
    pure (.tuple #[])) := rfl
theorem as_parts25a (a : Addr) (w : World) : (ReflectliteValue.parts (.agg #[.pointer (some ⟨9, 62, none⟩), .pointer (some a), .int .u64 406])).run Tryz.prog w = .ok (some (62, a, 406)) w := by kernel_rfl
theorem as_parts25 (a : Addr) (w : World) : (ReflectliteValue.parts (.agg #[.pointer (some ⟨9, 62, none⟩), .pointer (some a), .int .u64 150])).run Tryz.prog w = .ok (some (62, a, 150)) w := by kernel_rfl
theorem as_direct25 (w : World) : (Rtype.directlyAssignable 62 62).run Tryz.prog w = .ok true w := by kernel_rfl
theorem as_size25 (w : World) : (sizeOf 62).run Tryz.prog w = .ok 1 w := by kernel_rfl
/-- (Value).Set: the *p.E variable at 'ta' gets what the Value's own variable 'b' holds. -/
theorem as_set25 (ta b e : Addr) (old : Value) (W : World) (hb : W.cell? b = some (.pointer (some e))) (ht : W.cell? ta = some old) (hf : W.frozen? ta = false) :
    (ReflectliteValue.set #[.agg #[.pointer (some ⟨9, 62, none⟩), .pointer (some ta), .int .u64 406], .agg #[.pointer (some ⟨9, 62, none⟩), .pointer (some b), .int .u64 150]]).run Tryz.prog W
      = .ok (.tuple #[]) (W.setCell ta (.pointer (some e))) := by
  rw [as_rls]
  simp only [Sem.run_bind, as_parts25a, as_parts25, Result.andThen]
  simp [ReflectliteValue.flagAddr, loadVar, isAgg, underlying, Tryz.underlying62, hb, Result.andThen, as_direct25, storeVar, Value.cells, storeCells, Addr.add]
  rw [run_store Tryz.prog W ta _ _ (by rfl)]
  simp [ht, hf]

set_option maxHeartbeats 4000000 in
theorem as_hit (e t : Addr) (old : Value) (w : World) (hg : w.cell? ⟨0, 0, none⟩ = some (.iface 147 (.agg #[.pointer (some ⟨9, 24, none⟩)]))) (ht0 : w.cell? t = some old) (hf0 : w.frozen? t = false) :
    Calls Tryz.prog 26 #[.iface 62 (.pointer (some e)), .iface 66 (.pointer (some t))] w fun ev w' => ev = .returned (.bool true) ∧ w' = ((((w.alloc (.cells #[.pointer (some t)] 66)).alloc (.cells #[.pointer (some ⟨9, 66, none⟩), .pointer (some ⟨w.heap.size, 0, none⟩), .int .u64 150] 114)).alloc (.cells #[.pointer (some ⟨9, 66, none⟩), .pointer (some ⟨w.heap.size, 0, none⟩), .int .u64 150] 114)).alloc (.cells #[.pointer (some e)] 62)).setCell t (.pointer (some e)) := by
  have h6 := @run_callFunc_extern Tryz.prog 47 _ (fun args => ReflectliteValue.unpack (args.getD 0 (.tuple #[]))) Tryz.func47 (by kernel_rfl) (by kernel_rfl) (by kernel_rfl) (by kernel_rfl)
  have h7 := @run_callFunc_extern Tryz.prog 48 _ (ReflectliteValue.methodAny (ReflectliteValue.valueError "reflectlite.Value.Type" 0) (fun t _ _ _ => ReflectliteType.toType t)) Tryz.func48 (by kernel_rfl) (by kernel_rfl) (by kernel_rfl) (by kernel_rfl)
  have h8 := @run_callFunc_extern Tryz.prog 49 _ (ReflectliteValue.method (ReflectliteValue.valueError "reflectlite.Value.IsNil" 0) ReflectliteValue.isNil) Tryz.func49 (by kernel_rfl) (by kernel_rfl) (by kernel_rfl) (by kernel_rfl)
  have h27 := @run_callFunc_extern Tryz.prog 200 _ (ReflectliteType.abiMethod fun t => do pure (.int .u8 (← Rtype.kind t))) Tryz.func200 (by kernel_rfl) (by kernel_rfl) (by kernel_rfl) (by kernel_rfl)
  have h37 := @run_callFunc_extern Tryz.prog 213 _ (ReflectliteType.method ReflectliteType.elem) Tryz.func213 (by kernel_rfl) (by kernel_rfl) (by kernel_rfl) (by kernel_rfl)
  have h38 := @run_callFunc_extern Tryz.prog 214 _ (ReflectliteType.relation "Implements" ReflectliteType.implements_) Tryz.func214 (by kernel_rfl) (by kernel_rfl) (by kernel_rfl) (by kernel_rfl)
  have h10 := @run_callFunc_extern Tryz.prog 51 _ ReflectliteType.typeOf Tryz.func51 (by kernel_rfl) (by kernel_rfl) (by kernel_rfl) (by kernel_rfl)
  have h35 := @run_callFunc_extern Tryz.prog 211 _ (ReflectliteType.relation "AssignableTo" ReflectliteType.assignableTo) Tryz.func211 (by kernel_rfl) (by kernel_rfl) (by kernel_rfl) (by kernel_rfl)
  have h11 := @run_callFunc_extern Tryz.prog 80 _ (ReflectliteValue.method (ReflectliteValue.valueError "reflectlite.Value.Elem" 0) ReflectliteValue.elem) Tryz.func80 (by kernel_rfl) (by kernel_rfl) (by kernel_rfl) (by kernel_rfl)
  have h12 := @run_callFunc_extern Tryz.prog 81 _ ReflectliteValue.set Tryz.func81 (by kernel_rfl) (by kernel_rfl) (by kernel_rfl) (by kernel_rfl)
  have tO := as_typeOf25
  have mA := as_methodAssignableTo
  have a25 := as_assignable25
  have v25 := as_valueOf25
  have f6 := as_valueOf27
  have f7 := as_type27
  have mK := as_methodKind
  have mE := as_methodElem
  have mI := as_methodImplements
  have k27 := as_kind27
  have k25 := as_kind25
  have e27 := as_elem27
  have i25 := as_implements25
  have n8 := as_isNil27 ⟨w.heap.size, 0, none⟩ t ((w.alloc (.cells #[.pointer (some t)] 66)).alloc (.cells #[.pointer (some ⟨9, 66, none⟩), .pointer (some ⟨w.heap.size, 0, none⟩), .int .u64 150] 114)) (by simp)
  have hlt : 0 < w.heap.size := by
    rcases Nat.eq_zero_or_pos w.heap.size with h0 | h
    · simp [World.cell?, h0] at hg
    · exact h
  have hg2 : ((w.alloc (.cells #[.pointer (some t)] 66)).alloc (.cells #[.pointer (some ⟨9, 66, none⟩), .pointer (some ⟨w.heap.size, 0, none⟩), .int .u64 150] 114)).cell? ⟨0, 0, none⟩ = some (.iface 147 (.agg #[.pointer (some ⟨9, 24, none⟩)])) := by
    rw [World.cell?_alloc_lt _ _ ⟨0, 0, none⟩ (by simp), World.cell?_alloc_lt _ _ ⟨0, 0, none⟩ hlt]; exact hg
  have htl : t.block < w.heap.size := by
    rcases Nat.lt_or_ge t.block w.heap.size with h | h
    · exact h
    · simp [World.cell?, Array.getElem?_eq_none h] at ht0
  have el := as_elemV27 ⟨w.heap.size, 0, none⟩ t (((w.alloc (.cells #[.pointer (some t)] 66)).alloc (.cells #[.pointer (some ⟨9, 66, none⟩), .pointer (some ⟨w.heap.size, 0, none⟩), .int .u64 150] 114)).alloc (.cells #[.pointer (some ⟨9, 66, none⟩), .pointer (some ⟨w.heap.size, 0, none⟩), .int .u64 150] 114)) (by rw [World.cell?_alloc_lt _ _ ⟨w.heap.size, 0, none⟩ (by simp; omega)]; simp)
  have st := as_set25 t ⟨w.heap.size + 1 + 1 + 1, 0, none⟩ e old ((((w.alloc (.cells #[.pointer (some t)] 66)).alloc (.cells #[.pointer (some ⟨9, 66, none⟩), .pointer (some ⟨w.heap.size, 0, none⟩), .int .u64 150] 114)).alloc (.cells #[.pointer (some ⟨9, 66, none⟩), .pointer (some ⟨w.heap.size, 0, none⟩), .int .u64 150] 114)).alloc (.cells #[.pointer (some e)] 62))
    (by rw [World.cell?_alloc_at _ _ _ _ (by simp)]; rfl)
    (by rw [World.cell?_alloc_lt _ _ t (by simp; omega), World.cell?_alloc_lt _ _ t (by simp; omega), World.cell?_alloc_lt _ _ t (by simp; omega), World.cell?_alloc_lt _ _ t htl]; exact ht0)
    (by rw [World.frozen?_alloc_old _ _ t (by simp; omega), World.frozen?_alloc_old _ _ t (by simp; omega), World.frozen?_alloc_old _ _ t (by simp; omega), World.frozen?_alloc_old _ _ t (Nat.ne_of_lt htl)]; exact hf0)
  go_enter Tryz.func26, Tryz.ntmps26
  go_wp2
  refine wp_loop_rounds 1 ?_
  rw [rounds_succ]
  go_wp2
  go_ret
  exact ⟨rfl, rfl⟩
end
end Go.Proofs.YtibhkldnimfnkaaGreatDoor

/- Script: errors.Is at a *api.Fault. -/
namespace Go.Proofs.YtibhkldnimfnkaaGreatDoor
section
set_option linter.unusedVariables false
set_option linter.unusedSimpArgs false
set_option linter.unusedSectionVars false
open Go.RowKit Go.Extern.Stop Go.Stop Go.Extern
set_option maxRecDepth 100000

theorem unwrap_c (b : Nat) (c i : Int) (w : World) (hb : Blk w b #[.int .i64 c, .int .i64 i] 29) :
    Calls Tryz.prog 205 #[.pointer (some ⟨b, 0, none⟩)] w fun e w' => e = .returned (.iface 27 (.int .i64 c)) ∧ w' = w := by
  have c0 := hb.cell 0
  have bl := hb.lt
  simp only [List.getElem?_toArray, List.getElem?_cons_zero] at c0
  clear hb
  go_enter Tryz.func205, Tryz.ntmps205
  go_wp2
  go_ret
  exact ⟨rfl, rfl⟩
theorem is_typeOf (v : Value) (w : World) : (ReflectliteType.typeOf #[.iface 27 v]).run Tryz.prog w = .ok (.iface 147 (.agg #[.pointer (some ⟨9, 27, none⟩)])) w := by kernel_rfl
theorem is_methodComparable (h : Value) (w : World) : (Go.method 421 147 (.agg #[h]) "Comparable").run Tryz.prog w = .ok (212, .agg #[h]) w := by kernel_rfl

theorem eq_far (p : Option Addr) (c : Int) (w : World) : (binOp .eql 24 (.iface 62 (.pointer p)) (.iface 27 (.int .i64 c))).run Tryz.prog w = .ok (.bool false) w := by kernel_rfl
theorem eq_near (c : Int) (w : World) : (binOp .eql 24 (.iface 27 (.int .i64 c)) (.iface 27 (.int .i64 c))).run Tryz.prog w = .ok (.bool true) w := by
  have h : ∀ d : Nat, (Op.equalIn (d + 2) 24 (.iface 27 (.int .i64 c)) (.iface 27 (.int .i64 c))).run Tryz.prog w = .ok true w := fun d => by
    have h1 : Tryz.prog.info? 27 = some Tryz.t27 := by kernel_rfl
    have h2 : Tryz.t27.comparable = true := by kernel_rfl
    simp [Op.equalIn, run_underlying Tryz.underlying24, run_underlying Tryz.underlying27, typeInfo, h1, h2]
  simp only [binOp]
  simp [Op.equal, Op.maxDepth, h 9998]
theorem no_Is (v : Value) (w : World) : (Instr.typeAssert (.iface 62 v) 24 159 true).run Tryz.prog w = .ok (.tuple #[.nilIface, .bool false]) w := run_typeAssert_lacksB Tryz.underlying159 (by kernel_rfl) (by kernel_rfl) v 24 w
theorem has_Unwrap (v : Value) (w : World) : (Instr.typeAssert (.iface 62 v) 24 154 true).run Tryz.prog w = .ok (.tuple #[.iface 62 v, .bool true]) w := by kernel_rfl

set_option maxHeartbeats 4000000 in
theorem is_c (b : Nat) (c i : Int) (w : World) (hb : Blk w b #[.int .i64 c, .int .i64 i] 29) :
    Calls Tryz.prog 52 #[.iface 62 (.pointer (some ⟨b, 0, none⟩)), .iface 27 (.int .i64 c), .bool true] w fun e w' => e = .returned (.bool true) ∧ w' = w := by
  have HU := hid (unwrap_c b c i w hb)
  have e1 := eq_far
  have e2 := eq_near
  have n1 := no_Is
  have n2 := has_Unwrap
  clear hb
  go_enter Tryz.func52, Tryz.ntmps52
  go_wp2_with fail
  refine wp_loop_rounds 2 ?_
  rw [rounds_succ]
  go_wp2_with fail
  refine HU.out.mono ?_
  rintro e w' ⟨rfl, rfl⟩
  go_wp2_with fail
  rw [rounds_succ]
  go_wp2_with fail
  go_ret
  exact ⟨rfl, rfl⟩

theorem is_comparable (w : World) : ((ReflectliteType.method fun t => do Rtype.noPackHeld "Comparable" t; (fun a : TypeInfo => Value.bool a.comparable) <$> typeInfo t) #[.agg #[.pointer (some ⟨9, 27, none⟩)]]).run Tryz.prog w = .ok (.bool true) w := by kernel_rfl
set_option maxHeartbeats 4000000 in
theorem is_hit (b : Nat) (c i : Int) (w : World) (hb : Blk w b #[.int .i64 c, .int .i64 i] 29) :
    Calls Tryz.prog 27 #[.iface 62 (.pointer (some ⟨b, 0, none⟩)), .iface 27 (.int .i64 c)] w fun e w' => e = .returned (.bool true) ∧ w' = w := by
  have HI := hid (is_c b c i w hb)
  have h51 := @run_callFunc_extern Tryz.prog 51 _ ReflectliteType.typeOf Tryz.func51 (by kernel_rfl) (by kernel_rfl) (by kernel_rfl) (by kernel_rfl)
  have tO := is_typeOf
  have mC := is_methodComparable
  have h212 := @run_callFunc_extern Tryz.prog 212 _ (ReflectliteType.method fun t => do Rtype.noPackHeld "Comparable" t; pure (.bool (← typeInfo t).comparable)) Tryz.func212 (by kernel_rfl) (by kernel_rfl) (by kernel_rfl) (by kernel_rfl)
  have cC := is_comparable
  clear hb
  go_enter Tryz.func27, Tryz.ntmps27
  go_wp2_with fail
  refine HI.out.mono ?_
  rintro e w' ⟨rfl, rfl⟩
  go_wp2_with fail
  go_ret
  exact ⟨rfl, rfl⟩
end
end Go.Proofs.YtibhkldnimfnkaaGreatDoor

/- A region that draws its order, operation by operation, where some are guarded. -/
namespace Go.Proofs.YtibhkldnimfnkaaGreatDoor
section
set_option linter.unusedVariables false
set_option linter.unusedSimpArgs false
set_option linter.unusedSectionVars false
open Go.RowKit

section
variable {P : Program} {ops : Array Oper} {Q : Exit → Act → World → Prop} {S : World → Prop} {V : Nat → Value → World → Prop} {J : Array Bool → World → Prop} {a0 : Act}
/-- As tidy, but guards may be. -/
def tidyG (ops : Array Oper) (n : Nat) : Bool :=
  ops.toList.all (fun o => (match o.dst with | some d => decide (d < n) | none => true)) &&
  decide ((ops.toList.filterMap (·.dst)).Nodup) &&
  (List.range ops.size).all fun i => match ops[i]? with | some o => o.after.all fun e => decide (e.on < i) | none => true
theorem TidyG.dst {n : Nat} (h : tidyG ops n = true) {i : Nat} {o : Oper} (hi : ops[i]? = some o) : ∀ d, o.dst = some d → d < n := by
  simp only [tidyG, Bool.and_eq_true, List.all_eq_true] at h
  have := h.1.1 o (by simpa using Array.mem_of_getElem? hi)
  intro d hd
  rw [hd] at this
  simpa using this
theorem TidyG.once {n : Nat} (h : tidyG ops n = true) {i j : Nat} {o o' : Oper} {d : Tmp} (hi : ops[i]? = some o) (hj : ops[j]? = some o') (h1 : o.dst = some d) (h2 : o'.dst = some d) : i = j := by
  simp only [tidyG, Bool.and_eq_true, decide_eq_true_eq] at h
  exact nodup_dst ops.toList h.1.2 i j o o' d (by simpa using hi) (by simpa using hj) h1 h2
theorem TidyG.after {n : Nat} (h : tidyG ops n = true) {i : Nat} {o : Oper} (hi : ops[i]? = some o) : ∀ e ∈ o.after, e.on < i := by
  simp only [tidyG, Bool.and_eq_true, List.all_eq_true] at h
  have hlt := (Array.getElem?_eq_some_iff.1 hi).1
  have := h.2 i (List.mem_range.2 hlt)
  rw [hi] at this
  simp only [Array.all_eq_true_iff_forall_mem, decide_eq_true_eq] at this
  exact this

theorem RegAt.putG {n : Nat} (ht : tidyG ops n = true) (hn : a0.tmps.size = n) {listed : Array Bool} {a : Act} {w w' : World} (h : RegAt ops S V a0 listed a w) {i : Nat} {o : Oper} (hi : ops[i]? = some o) (hls : listed.size = ops.size)
    {v : Value} (hS : S w') (hV : V i (match o.dst with | some _ => v | none => undef) w') (hK : ∀ j u, j ≠ i → V j u w → V j u w') : RegAt ops S V a0 (listed.setIfInBounds i true) (a.put o.dst v) w' := by
  have hlt := (Array.getElem?_eq_some_iff.1 hi).1
  refine ⟨hS, ?_, ?_, ?_, ?_⟩
  · cases hd : o.dst <;> exact h.defers
  · rw [← h.size]; cases hd : o.dst <;> simp [Act.put]
  · intro j o' hj hl
    by_cases hij : i = j
    · subst hij
      rw [hi] at hj
      cases hj
      unfold Act.left
      cases hd : o.dst with
      | none => rw [hd] at hV; exact hV
      | some d =>
        rw [hd] at hV
        have hdn := TidyG.dst ht hi d hd
        have : d < a.tmps.size := by rw [h.size, hn]; exact hdn
        simp only [Act.put]
        rw [Array.getD_eq_getD_getElem?, Array.getElem?_setIfInBounds_self_of_lt this]
        exact hV
    · rw [getD_set_ne false hij] at hl
      have := hK j _ (Ne.symm hij) (h.got j o' hj hl)
      unfold Act.left at this ⊢
      cases hd' : o'.dst with
      | none => rw [hd'] at this; exact this
      | some d' =>
        rw [hd'] at this
        cases hd : o.dst with
        | none => exact this
        | some d =>
          have hne : d ≠ d' := fun e => hij (TidyG.once ht hi hj hd (by rw [hd', e]))
          simp only [Act.put]
          rw [Array.getD_eq_getD_getElem?, Array.getElem?_setIfInBounds_ne hne, ← Array.getD_eq_getD_getElem?]
          exact this
  · intro t hT
    rw [← h.kept t hT]
    cases hd : o.dst with
    | none => rfl
    | some d =>
      have hne : d ≠ t := fun e => hT i o hi (by rw [hd, e])
      simp only [Act.put]
      rw [Array.getD_eq_getD_getElem?, Array.getElem?_setIfInBounds_ne hne, ← Array.getD_eq_getD_getElem?]

theorem ready_allG {n : Nat} (ht : tidyG ops n = true) {listed : Array Bool} (hls : listed.size = ops.size) (hr : Region.ready .any ops listed = []) : ∀ i, i < ops.size → listed.getD i false = true := by
  intro i
  induction i using Nat.strongRecOn with
  | ind i ih =>
    intro hi
    by_cases h : listed.getD i false = true
    · exact h
    · have hin : i ∈ Region.ready .any ops listed := by
        refine mem_ready.2 ⟨?_, ops[i], Array.getElem?_eq_getElem hi, fun e he _ => ?_⟩
        · rw [Array.getD_eq_getD_getElem?, Array.getElem?_eq_getElem (by omega)] at h ⊢
          simpa using h
        · have hlt := TidyG.after ht (Array.getElem?_eq_getElem hi) e he
          exact ih e.on hlt (by omega)
      rw [hr] at hin
      cases hin

theorem wpAny_eachG {n : Nat} (ht : tidyG ops n = true) (hn : a0.tmps.size = n)
    (step : ∀ (i : Nat) (o : Oper), ops[i]? = some o → ∀ (listed : Array Bool) a w, RegAt ops S V a0 listed a w → J listed w → listed.size = ops.size → listed.getD i true = false → (∀ e ∈ o.after, Region.binds .any e = true → listed.getD e.on false = true) → ∀ K : Act → World → Prop,
      (∀ v w', S w' → V i (match o.dst with | some _ => v | none => undef) w' → (∀ j u, j ≠ i → V j u w → V j u w') → J (listed.setIfInBounds i true) w' → K (a.put o.dst v) w') → if Region.wanted o (yielded ops a.tmps) = true then o.wp P a w K Q else K (a.put o.dst undef) w)
    (fin : ∀ listed a w, RegAt ops S V a0 listed a w → (∀ i, i < ops.size → listed.getD i false = true) → Q .normal a w) :
    ∀ (fuel : Nat) (listed : Array Bool) (a : Act) (w : World), listed.size = ops.size → (listed.toList.filter (fun x => !x)).length ≤ fuel → RegAt ops S V a0 listed a w → J listed w → wpAny P .any ops Q fuel listed a w := by
  intro fuel
  induction fuel with
  | zero =>
    intro listed a w hls hf h hJ
    have hall : ∀ i, listed.getD i true = true := by
      intro i
      cases hx : listed[i]? with
      | none => rw [Array.getD_eq_getD_getElem?, hx]; rfl
      | some b =>
        rw [Array.getD_eq_getD_getElem?, hx]
        cases b with
        | true => rfl
        | false =>
          have hm : false ∈ listed.toList.filter (fun x => !x) := List.mem_filter.2 ⟨by simpa using Array.mem_of_getElem? hx, rfl⟩
          rw [List.length_eq_zero_iff.1 (Nat.le_zero.1 hf)] at hm
          cases hm
    have hr : Region.ready .any ops listed = [] := by
      rw [List.eq_nil_iff_forall_not_mem]
      intro i hi
      have := (mem_ready.1 hi).1
      rw [hall i] at this
      cases this
    exact ⟨hr, fin listed a w h (ready_allG ht hls hr)⟩
  | succ fuel ih =>
    intro listed a w hls hf h hJ
    have key : ∀ (l : List Bool) (i : Nat), l[i]? = some false → ((l.set i true).filter (fun x => !x)).length + 1 = (l.filter (fun x => !x)).length := by
      intro l
      induction l with
      | nil => intro i h; simp at h
      | cons b l ihl =>
        intro i h
        cases i with
        | zero => simp at h; subst h; simp
        | succ i =>
          simp at h
          have := ihl i h
          cases b <;> simp [this]
    have hlen : ∀ i, listed.getD i true = false → ((listed.setIfInBounds i true).toList.filter (fun x => !x)).length ≤ fuel := by
      intro i h0
      have hfi : listed.toList[i]? = some false := by
        rw [Array.getD_eq_getD_getElem?] at h0
        rw [Array.getElem?_toList]
        cases hx : listed[i]? with
        | none => rw [hx] at h0; cases h0
        | some b => rw [hx] at h0; simp at h0; rw [h0]
      have := key _ _ hfi
      rw [Array.toList_setIfInBounds]
      omega
    refine ⟨fun hr => fin listed a w h (ready_allG ht hls hr), fun i hi => ?_⟩
    obtain ⟨h0, o, ho, hall⟩ := mem_ready.1 hi
    have hlt := (Array.getElem?_eq_some_iff.1 ho).1
    unfold wpOp
    simp only [ho]
    have H := step i o ho listed a w h hJ hls h0 hall _ fun v w' hS hV hK hJ' => ih _ _ _ (by simp [hls]) (hlen i h0) (h.putG ht hn ho hls hS hV hK) hJ'
    split
    · rename_i hw
      rw [if_pos hw] at H
      exact .inl H
    · rename_i hw
      rw [if_neg hw] at H
      exact H

/-- One operation's part. -/
def Step1G (P : Program) (ops : Array Oper) (Q : Exit → Act → World → Prop) (S : World → Prop) (V : Nat → Value → World → Prop) (J : Array Bool → World → Prop) (a0 : Act) (i : Nat) (o : Oper) : Prop :=
  ∀ (listed : Array Bool) a w, RegAt ops S V a0 listed a w → J listed w → listed.size = ops.size → listed.getD i true = false → (∀ e ∈ o.after, Region.binds .any e = true → listed.getD e.on false = true) → ∀ K : Act → World → Prop,
      (∀ v w', S w' → V i (match o.dst with | some _ => v | none => undef) w' → (∀ j u, j ≠ i → V j u w → V j u w') → J (listed.setIfInBounds i true) w' → K (a.put o.dst v) w') → if Region.wanted o (yielded ops a.tmps) = true then o.wp P a w K Q else K (a.put o.dst undef) w
def StepsG (P : Program) (ops : Array Oper) (Q : Exit → Act → World → Prop) (S : World → Prop) (V : Nat → Value → World → Prop) (J : Array Bool → World → Prop) (a0 : Act) : Nat → List Oper → Prop
  | _, [] => True
  | k, o :: l => Step1G P ops Q S V J a0 k o ∧ StepsG P ops Q S V J a0 (k + 1) l
theorem StepsG.at : ∀ (l : List Oper) (k : Nat), StepsG P ops Q S V J a0 k l → ∀ i o, l[i]? = some o → Step1G P ops Q S V J a0 (k + i) o
  | [], _, _, i, o, h => by simp at h
  | x :: l, k, hs, i, o, h => by
    cases i with
    | zero => simp at h; subst h; exact hs.1
    | succ i =>
      simp at h
      have := StepsG.at l (k + 1) hs.2 i o h
      rw [show k + (i + 1) = k + 1 + i by omega]
      exact this
theorem wp_region_stepsG {id : Nat} {l : List Oper} {w : World} (hm : P.follows .mixedOrders = true) (ht : tidyG l.toArray a0.tmps.size = true) (S : World → Prop) (V : Nat → Value → World → Prop) (J : Array Bool → World → Prop) (h0 : S w.drew)
    (hJ : J (Array.replicate l.toArray.size false) w.drew)
    (steps : StepsG P l.toArray Q S V J a0 0 l)
    (fin : ∀ listed a w, RegAt l.toArray S V a0 listed a w → (∀ i, i < l.toArray.size → listed.getD i false = true) → Q .normal a w) : (Code.region id l.toArray true).wp P Q a0 w := by
  refine wp_region_any hm (wpAny_eachG (J := J) ht rfl (fun i o ho => by have := StepsG.at l 0 steps i o (by simpa using ho); rw [Nat.zero_add] at this; exact this) fin l.toArray.size _ _ _ (by simp) ?_ ⟨h0, rfl, rfl, ?_, fun _ _ => rfl⟩ hJ)
  · refine Nat.le_trans (List.length_filter_le _ _) (by simp)
  · intro i o ho hl
    rw [Array.getD_eq_getD_getElem?, Array.getElem?_replicate] at hl
    split at hl <;> cases hl
/-- A guard that is decided. -/
theorem wanted_of {a : Act} {o og : Oper} {g d : Nat} {x b : Bool} (ho : o.guard = some (g, b)) (hg : ops[g]? = some og) (hd : og.dst = some d) (hv : a.tmps[d]?.getD undef = .bool x) : Region.wanted o (yielded ops a.tmps) = (x == b) := by
  have hy : yielded ops a.tmps g = some x := by
    unfold yielded
    rw [hg]
    simp only [Option.bind_some]
    rw [hd]
    simp only [Option.bind_some]
    cases h : a.tmps[d]? with
    | none => rw [h] at hv; exact absurd hv (by simp [undef])
    | some v => rw [h] at hv; simp at hv; subst hv; rfl
  unfold Region.wanted
  rw [ho]
  simp only [hy]
  cases x <;> cases b <;> rfl
theorem wanted_none {a : Act} {o : Oper} (ho : o.guard = none) : Region.wanted o (yielded ops a.tmps) = true := by
  unfold Region.wanted
  rw [ho]
end
end
end Go.Proofs.YtibhkldnimfnkaaGreatDoor
