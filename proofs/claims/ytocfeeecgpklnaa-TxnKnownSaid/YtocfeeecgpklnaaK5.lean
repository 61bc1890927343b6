/- copy into a new row, clear, append of nothing: elements of some cells. No program in sight. -/
import Derived.Test.YtocfeeecgpklnaaK4
import Derived.Lib.SliceRun
namespace Go.Proofs.Ytocfeeecgpklnaa
set_option linter.unusedVariables false
set_option linter.unusedSimpArgs false
set_option linter.unusedSectionVars false
open Go.RowKit

section
variable {P : Program} {w : World}

theorem Src.rdl {x : Value} {sz m : Nat} {cs : List Value} (h : Rdl w sz x m cs) : Src P w x sz m cs := by
  obtain ⟨hl, ⟨rfl, rfl⟩ | ⟨b, off, cap, rfl, hc⟩⟩ := h
  · have : cs = [] := List.eq_nil_of_length_eq_zero (by simpa using hl)
    subst this
    exact Src.nil P w sz 0
  · exact Src.slice (fun i hi => hc i (by omega)) hl

/-- A slice without elements. -/
theorem Src.none (a : Option Addr) (sz cap : Nat) : Src P w (.slice a 0 cap) sz 0 [] := ⟨rfl, fun n hn => by
  obtain rfl : n = 0 := by omega
  cases a <;> simp [Builtin.firstCells, loadCells, loadCellsFrom], by simp⟩

/-- copy of n elements into a block that holds just n. -/
theorem run_copy_full (dT sT ty elem : TypeId) (n cp : Nat) (x : Value) (sz : Nat) (xs : List Value) (hu : P.underlying dT = some (.slice elem)) (hsz : (P.info? elem).map (·.size) = some sz)
    (hx : Src P w x sz n xs) (g : Nat) (cur : Array Value) (t : TypeId) (hg : Blk w g cur t) (hfit : cur.size = n * sz) (h1 : ∀ v ∈ xs, v.oneCell' = true) :
    ∃ w', (Builtin.copy_ #[dT, sT] ty #[.slice (some ⟨g, 0, none⟩) n cp, x]).run P w = .ok (goInt n) w' ∧ Blk w' g xs.toArray t ∧ Mod [g] w w' := by
  cases hq : P.info? elem with
  | none => simp [hq] at hsz
  | some i =>
    have hi : i.size = sz := by simpa [hq] using hsz
    have hl := hx.all
    have hc := hx.cells n (Nat.le_refl _)
    rw [List.take_of_length_le (by omega)] at hc
    have hst := run_storeCells_at P g 0 t xs 0 cur w hg (by omega) h1
    have e : (cur.toList.take (0 + 0) ++ xs ++ cur.toList.drop (0 + 0 + xs.length)).toArray = xs.toArray := by
      have : cur.toList.drop (0 + 0 + xs.length) = [] := List.drop_eq_nil_of_le (by simp; omega)
      rw [this]; simp
    rw [e] at hst
    have hmn : Nat.min n n = n := Nat.min_self n
    refine ⟨w.setRow g xs.toArray, ?_, setRow_heap w g _ _ t _ hg, ⟨rfl, rfl, rfl, by simp, fun k _ hk => setRow_other w g k _ (by simpa using hk)⟩⟩
    simp [Builtin.copy_, run_underlying hu, sizeOf, typeInfo, hq, hi, hx.len, hmn, hc, hst]

theorem wpList_copy_full {ops : Array Oper} {rest : List Oper} {o : Oper} {a : Act} {Q : Exit → Act → World → Prop} (hgd : o.guard = none) (d s : Operand) (dT sT : TypeId)
    (ho : o.op = .call { callee := .builtin .copy, args := #[d, s], argTypes := #[dT, sT] }) (elem : TypeId) (sz : Nat) (hu : P.underlying dT = some (.slice elem)) (hsz : (P.info? elem).map (·.size) = some sz)
    (n cp : Nat) (x : Value) (hs : a.eval s = x) (xs : List Value) (hx : Src P w x sz n xs)
    (g : Nat) (cur : Array Value) (t : TypeId) (hd : a.eval d = .slice (some ⟨g, 0, none⟩) n cp) (hg : Blk w g cur t) (hfit : cur.size = n * sz) (h1 : ∀ v ∈ xs, v.oneCell' = true)
    (h : ∀ w', Hid (Blk w' g xs.toArray t) → Hid (Mod [g] w w') → wpList P ops Q rest (a.put o.dst (goInt n)) w') :
    wpList P ops Q (o :: rest) a w := by
  obtain ⟨w', hrun, hb, hm⟩ := run_copy_full dT sT o.type elem n cp x sz xs hu hsz hx g cur t hg hfit h1
  refine wpList_plain hgd fun K hK => ?_
  unfold Oper.wp
  simp [execOp, ho, resolve, invoke, builtin, hd, hs, hrun, Result.andThen]
  exact hK _ _ (h w' hb hm)

/-- clear of the last elements of a block. -/
theorem run_clear_blk (t e ty : TypeId) (z : Value) (ht : P.underlying t = some (.slice e)) (hv : ∀ w, (zeroValue e).run P w = .ok z w) (h1 : ∀ v ∈ z.cells.toList, v.oneCell' = true) (a : Option Addr) (n c : Nat)
    (g o : Nat) (cur : Array Value) (T : TypeId) (hg : Blk w g cur T) (ha : 0 < n → a = some ⟨g, o, none⟩ ∧ o + n * z.cells.size ≤ cur.size) :
    ∃ w' cur', (Builtin.clear_ #[t] ty #[.slice a n c]).run P w = .ok (.tuple #[]) w' ∧ Blk w' g cur' T ∧ cur'.size = cur.size ∧ (∀ j, j < o → cur'[j]? = cur[j]?) ∧ Mod [g] w w' := by
  rcases Nat.eq_zero_or_pos n with rfl | hn
  · refine ⟨w, cur, ?_, hg, rfl, fun _ _ => rfl, Mod.refl _ _⟩
    cases a <;> simp [Builtin.clear_, run_underlying ht]
  · obtain ⟨rfl, hfit⟩ := ha hn
    have hzs : (Builtin.zeroCells z.cells n).toList.length = n * z.cells.size := by simp [size_zeroCells]
    have hz1 : ∀ v ∈ (Builtin.zeroCells z.cells n).toList, v.oneCell' = true := by
      intro v hv'
      simp [Builtin.zeroCells] at hv'
      obtain ⟨k, hk, rfl⟩ := hv'
      have hpos : 0 < z.cells.size := by
        rcases Nat.eq_zero_or_pos z.cells.size with h0 | h0
        · simp [h0] at hk
        · exact h0
      have hlt : k % z.cells.size < z.cells.size := Nat.mod_lt _ hpos
      rw [getElem!_pos z.cells (k % z.cells.size) hlt]
      exact h1 _ (Array.getElem_mem_toList _)
    have hst := run_storeCells_at P g o T _ 0 cur w hg (by rw [hzs]; omega) hz1
    refine ⟨w.setRow g (cur.toList.take (o + 0) ++ (Builtin.zeroCells z.cells n).toList ++ cur.toList.drop (o + 0 + (Builtin.zeroCells z.cells n).toList.length)).toArray, (cur.toList.take (o + 0) ++ (Builtin.zeroCells z.cells n).toList ++ cur.toList.drop (o + 0 + (Builtin.zeroCells z.cells n).toList.length)).toArray, ?_, setRow_heap w g cur _ T _ hg, ?_, ?_, ⟨rfl, rfl, rfl, by simp, fun k _ hk => setRow_other w g k _ (by simpa using hk)⟩⟩
    · obtain ⟨m, rfl⟩ : ∃ m, n = m + 1 := ⟨n - 1, by omega⟩
      simp [Builtin.clear_, run_underlying ht, hv, hst]
    · simp only [List.size_toArray, List.length_append, List.length_take, List.length_drop, Array.length_toList, hzs]
      omega
    · intro j hj
      rw [List.getElem?_toArray, List.append_assoc, List.getElem?_append_left (by simp; omega), List.getElem?_take, if_pos (by omega)]
      simp

theorem wpList_clear_blk {ops : Array Oper} {rest : List Oper} {o : Oper} {act : Act} {Q : Exit → Act → World → Prop} (hgd : o.guard = none) (s : Operand) (t : TypeId)
    (ho : o.op = .call { callee := .builtin .clear, args := #[s], argTypes := #[t] }) (e : TypeId) (z : Value) (ht : P.underlying t = some (.slice e)) (hv : ∀ w, (zeroValue e).run P w = .ok z w) (h1 : ∀ v ∈ z.cells.toList, v.oneCell' = true) (a : Option Addr) (n c : Nat)
    (hs : act.eval s = .slice a n c)
    (g off : Nat) (cur : Array Value) (T : TypeId) (hg : Blk w g cur T) (ha : 0 < n → a = some ⟨g, off, none⟩ ∧ off + n * z.cells.size ≤ cur.size)
    (h : ∀ w' cur', Hid (Blk w' g cur' T) → Hid (cur'.size = cur.size) → Hid (∀ j, j < off → cur'[j]? = cur[j]?) → Hid (Mod [g] w w') → wpList P ops Q rest (act.put o.dst (.tuple #[])) w') :
    wpList P ops Q (o :: rest) act w := by
  obtain ⟨w', cur', hrun, hb, h2, h3, hm⟩ := run_clear_blk t e o.type z ht hv h1 a n c g off cur T hg ha
  refine wpList_plain hgd fun K hK => ?_
  unfold Oper.wp
  simp [execOp, ho, resolve, invoke, builtin, hs, hrun, Result.andThen]
  exact hK _ _ (h w' cur' hb h2 h3 hm)

/-- make of n elements of some cells: a new block of just so many. -/
theorem run_make_row (t e : TypeId) (i : TypeInfo) (z : Value) (ht : P.underlying t = some (.slice e)) (hi : P.info? e = some i) (hz : i.zero = some z)
    (n : Nat) (hbytes : i.bytes * n ≤ 281474976710656) (h63 : n ≤ 9223372036854775807) :
    (Instr.makeSlice t (.int .i64 n) (.int .i64 n)).run P w = .ok (.slice (some ⟨w.heap.size, 0, none⟩) n n) (w.alloc (.cells (madeCells z.cells (n * i.size)) e)) := by
  have hb' : (i.bytes : Int) * (n : Int) ≤ 281474976710656 := by
    have h : ((i.bytes * n : Nat) : Int) ≤ 281474976710656 := by omega
    rwa [Int.natCast_mul] at h
  have hr := run_make (P := P) w t e i z ht hi hz .i64 .i64 n n (by omega) (by omega) hb' (by omega)
  simpa using hr
end

/-- append of no elements at all. -/
theorem run_append_none {P : Program} {w : World} (t ty E : TypeId) (ht : P.underlying t = some (.slice E)) {sz : Nat} (he : (P.info? E).map (·.size) = some sz) (ad : Option Addr) (n cap : Nat) (hnc : n ≤ cap) (a : Option Addr) (c : Nat) :
    (Builtin.append_ #[t, t] ty #[.slice ad n cap, .slice a 0 c]).run P w = .ok (.slice ad n cap) w := by
  cases hq : P.info? E with
  | none => simp [hq] at he
  | some i =>
    cases a <;> cases ad <;> simp [Builtin.append_, run_underlying ht, sizeOf, typeInfo, hq, Builtin.lenOf, Builtin.firstCells, loadCells, loadCellsFrom, hnc, storeCells]

end Go.Proofs.Ytocfeeecgpklnaa
