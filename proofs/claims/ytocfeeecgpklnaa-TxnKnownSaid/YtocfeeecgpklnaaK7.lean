/- copy into a place of a block, append of zeros without room: elements of some cells. No program in sight. -/
import Derived.Test.YtocfeeecgpklnaaK6
import Derived.Lib.AppendZerosOnto
import Derived.Lib.AppendZeros
import Derived.Lib.Overlaps
namespace Go.Proofs.Ytocfeeecgpklnaa
set_option linter.unusedVariables false
set_option linter.unusedSimpArgs false
set_option linter.unusedSectionVars false
open Go.RowKit

/-- Some cells are written over. -/
def splice (cur : Array Value) (o : Nat) (ys : List Value) : Array Value := (cur.toList.take o ++ ys ++ cur.toList.drop (o + ys.length)).toArray
theorem splice_size (cur : Array Value) (o : Nat) (ys : List Value) (h : o + ys.length ≤ cur.size) : (splice cur o ys).size = cur.size := by
  simp [splice]; omega
theorem splice_toList (cur : Array Value) (o : Nat) (ys : List Value) : (splice cur o ys).toList = cur.toList.take o ++ ys ++ cur.toList.drop (o + ys.length) := by simp [splice]

theorem splice2_take (cur : Array Value) (F ys : List Value) (a s n : Nat) (hF : F.length = n) (hys : ys.length = s) (han : a ≤ n) (hc : n + s ≤ cur.size) (ht : cur.toList.take a = F.take a) :
    (splice (splice cur a ys) (a + s) (F.drop a)).toList.take (n + s) = F.take a ++ (ys ++ F.drop a) := by
  have h1 : (cur.toList.take a).length = a := by simp; omega
  rw [splice_toList, splice_toList]
  have h2 : (cur.toList.take a ++ ys ++ cur.toList.drop (a + ys.length)).take (a + s) = cur.toList.take a ++ ys := by
    rw [List.take_append_of_le_length (by simp; omega), List.take_of_length_le (by simp; omega)]
  rw [h2, List.take_append_of_le_length (by simp; omega), List.take_of_length_le (by simp; omega), ht, List.append_assoc]
theorem splice2_take' (cur : Array Value) (F ys : List Value) (a s n : Nat) (hF : F.length = n) (hys : ys.length = s) (han : a ≤ n) (hc : n + s ≤ cur.size) (ht : cur.toList.take n = F) :
    (splice (splice cur (a + s) (F.drop a)) a ys).toList.take (n + s) = F.take a ++ (ys ++ F.drop a) := by
  have h1 : (cur.toList.take (a + s)).length = a + s := by simp; omega
  have hta : cur.toList.take a = F.take a := by rw [← ht, List.take_take]; congr 1; omega
  rw [splice_toList, splice_toList]
  have h2 : (cur.toList.take (a + s) ++ F.drop a ++ cur.toList.drop (a + s + (F.drop a).length)).take a = F.take a := by
    rw [List.append_assoc, List.take_append_of_le_length (by omega), List.take_take, Nat.min_eq_left (by omega), hta]
  have h3 : (cur.toList.take (a + s) ++ F.drop a ++ cur.toList.drop (a + s + (F.drop a).length)).drop (a + ys.length) = F.drop a ++ cur.toList.drop (a + s + (F.drop a).length) := by
    rw [hys, List.append_assoc]
    exact List.drop_left' h1
  rw [h2, h3]
  have e : F.take a ++ ys ++ (F.drop a ++ cur.toList.drop (a + s + (F.drop a).length)) = (F.take a ++ (ys ++ F.drop a)) ++ cur.toList.drop (a + s + (F.drop a).length) := by simp
  rw [e]
  exact List.take_left' (by simp; omega)

section
variable {P : Program} {w : World}
theorem run_copy_at (dT sT ty elem : TypeId) (n cp m : Nat) (x : Value) (sz : Nat) (xs : List Value) (hu : P.underlying dT = some (.slice elem)) (hsz : (P.info? elem).map (·.size) = some sz)
    (hx : Src P w x sz m xs) (g o : Nat) (cur : Array Value) (t : TypeId) (hg : Blk w g cur t) (k : Nat) (hk : k = Nat.min n m) (hfit : o + k * sz ≤ cur.size) (h1 : ∀ v ∈ xs.take (k * sz), v.oneCell' = true) :
    ∃ w', (Builtin.copy_ #[dT, sT] ty #[.slice (some ⟨g, o, none⟩) n cp, x]).run P w = .ok (goInt k) w' ∧ Blk w' g (splice cur o (xs.take (k * sz))) t ∧ Mod [g] w w' := by
  cases hq : P.info? elem with
  | none => simp [hq] at hsz
  | some i =>
    have hi : i.size = sz := by simpa [hq] using hsz
    have hl := hx.all
    have hkm : k ≤ m := by rw [hk]; exact Nat.min_le_right _ _
    have hc := hx.cells k hkm
    have hlen : (xs.take (k * sz)).length = k * sz := by rw [List.length_take, hl]; exact Nat.min_eq_left (Nat.mul_le_mul_right _ hkm)
    have hst := run_storeCells_at P g o t (xs.take (k * sz)) 0 cur w hg (by rw [hlen]; omega) h1
    refine ⟨w.setRow g (splice cur o (xs.take (k * sz))), ?_, setRow_heap w g cur _ t _ hg, ⟨rfl, rfl, rfl, by simp, fun k _ hk => setRow_other w g k _ (by simpa using hk)⟩⟩
    have e : (cur.toList.take (o + 0) ++ xs.take (k * sz) ++ cur.toList.drop (o + 0 + (xs.take (k * sz)).length)).toArray = splice cur o (xs.take (k * sz)) := rfl
    rw [e] at hst
    have hk2 : m.min n = k := by rw [hk]; exact Nat.min_comm m n
    simp [Builtin.copy_, run_underlying hu, sizeOf, typeInfo, hq, hi, hx.len, hk2, hc, hst]

theorem wpList_copy_at {ops : Array Oper} {rest : List Oper} {o : Oper} {a : Act} {Q : Exit → Act → World → Prop} (hgd : o.guard = none) (d s : Operand) (dT sT : TypeId)
    (ho : o.op = .call { callee := .builtin .copy, args := #[d, s], argTypes := #[dT, sT] }) (elem : TypeId) (sz : Nat) (hu : P.underlying dT = some (.slice elem)) (hsz : (P.info? elem).map (·.size) = some sz)
    (n cp m : Nat) (x : Value) (hs : a.eval s = x) (xs : List Value) (hx : Src P w x sz m xs)
    (g off : Nat) (cur : Array Value) (t : TypeId) (hd : a.eval d = .slice (some ⟨g, off, none⟩) n cp) (hg : Blk w g cur t) (k : Nat) (hk : k = Nat.min n m) (hfit : off + k * sz ≤ cur.size) (h1 : ∀ v ∈ xs.take (k * sz), v.oneCell' = true)
    (h : ∀ w', Hid (Blk w' g (splice cur off (xs.take (k * sz))) t) → Hid (Mod [g] w w') → wpList P ops Q rest (a.put o.dst (goInt k)) w') :
    wpList P ops Q (o :: rest) a w := by
  obtain ⟨w', hrun, hb, hm⟩ := run_copy_at dT sT o.type elem n cp m x sz xs hu hsz hx g off cur t hg k hk hfit h1
  refine wpList_plain hgd fun K hK => ?_
  unfold Oper.wp
  simp [execOp, ho, resolve, invoke, builtin, hd, hs, hrun, Result.andThen]
  exact hK _ _ (h w' hb hm)

theorem step_copy_at {ops : Array Oper} {o : Oper} {a : Act} {K : Act → World → Prop} {Q : Exit → Act → World → Prop} {F : Prop} (hgd : o.guard = none) (d s : Operand) (dT sT : TypeId)
    (ho : o.op = .call { callee := .builtin .copy, args := #[d, s], argTypes := #[dT, sT] }) (elem : TypeId) (sz : Nat) (hu : P.underlying dT = some (.slice elem)) (hsz : (P.info? elem).map (·.size) = some sz)
    (n cp m : Nat) (x : Value) (hs : a.eval s = x) (xs : List Value) (hx : Src P w x sz m xs)
    (g off : Nat) (cur : Array Value) (t : TypeId) (hd : a.eval d = .slice (some ⟨g, off, none⟩) n cp) (hg : Blk w g cur t) (k : Nat) (hk : k = Nat.min n m) (hfit : off + k * sz ≤ cur.size) (h1 : ∀ v ∈ xs.take (k * sz), v.oneCell' = true)
    (h : ∀ w', Hid (Blk w' g (splice cur off (xs.take (k * sz))) t) → Hid (Mod [g] w w') → K (a.put o.dst (goInt k)) w') :
    if Region.wanted o (yielded ops a.tmps) = true then Oper.wp P o a w K Q else F := by
  have hw : Region.wanted o (yielded ops a.tmps) = true := by simp [Region.wanted, hgd]
  rw [if_pos hw]
  obtain ⟨w', hrun, hb, hm⟩ := run_copy_at dT sT o.type elem n cp m x sz xs hu hsz hx g off cur t hg k hk hfit h1
  unfold Oper.wp
  simp [execOp, ho, resolve, invoke, builtin, hd, hs, hrun, Result.andThen]
  exact h w' hb hm

/-- append(s[:i], make(.., k)..) without room: a new row whose first elements are those of s. -/
theorem run_append_zeros_own (t tn ty E : TypeId) (ht : P.underlying t = some (.slice E)) (htn : P.underlying tn = some (.int .i64)) {z : Value} {sz bytes : Nat} (he : (P.info? E).map (fun i => (i.zero, i.size, i.bytes)) = some (some z, sz, bytes)) (hzs : z.cells.size = sz) (hsz : 0 < sz)
    {a : Option Addr} {n cap : Nat} {xs : List Value} {L : List Nat} (hown : Own w E sz (.slice a n cap) n xs L) (i k : Nat) (hi : i ≤ n) (hk : 0 < k) (hroom : cap < i + k) (hbig : (i + k) * bytes ≤ 140737488355328) (h63 : i + k ≤ 9223372036854775807) :
    ∃ G w' cur, (Builtin.append_ #[t, tn] ty #[.slice a i cap, .int .i64 k]).run P w = .ok (.slice (some ⟨w.heap.size, 0, none⟩) (i + k) G) w' ∧ Blk w' w.heap.size cur E ∧ Mod [] w w' ∧ i + k ≤ G ∧ G ≤ maxLen ∧ G * sz ≤ cur.size ∧ cur.toList.take (i * sz) = xs.take (i * sz) := by
  obtain ⟨inf, hinf, hz, hsize, hby⟩ := info_parts he
  subst hsize
  subst hby
  have hold : (Builtin.firstCells inf.size i (.slice a i cap)).run P w.drew = .ok (xs.take (i * inf.size)).toArray w.drew := by
    rcases hown.2 with ⟨e, h0, _⟩ | ⟨g, cap', cur, e, _, hb, h1, h2, h3, h4⟩
    · simp only [Value.slice.injEq] at e
      obtain ⟨rfl, rfl, rfl⟩ := e
      obtain rfl : i = 0 := by omega
      simp [Builtin.firstCells, loadCells, loadCellsFrom]
    · simp only [Value.slice.injEq] at e
      obtain ⟨rfl, _, rfl⟩ := e
      have hs := Src.slice (P := P) (w := w.drew) (b := g) (off := 0) (size := inf.size) (m := i) (cap := cap) (cs := xs.take (i * inf.size)) (fun j hj => by
        rw [List.length_take] at hj
        have hj1 : j < i * inf.size := by omega
        have hj2 : j < n * inf.size := Nat.lt_of_lt_of_le hj1 (Nat.mul_le_mul_right _ hi)
        rw [Nat.zero_add, hb.drew.cell, ← h4, List.take_take, Nat.min_eq_left (Nat.mul_le_mul_right _ hi), List.getElem?_take, if_pos hj1]
        simp) (by rw [List.length_take, hown.1]; exact Nat.min_eq_left (Nat.mul_le_mul_right _ hi))
      have := hs.cells i (Nat.le_refl _)
      rw [List.take_of_length_le (by rw [List.length_take]; omega)] at this
      exact this
  have hr := Lib.run_append_grow_zeros w t tn ty E inf z .i64 .i64 ht htn hinf hz a i cap (xs.take (i * inf.size)) hold k hk hsz hroom (by omega) (by
    have : k * inf.bytes ≤ (i + k) * inf.bytes := Nat.mul_le_mul_right _ (by omega)
    omega) (growslice_fits hroom hbig)
  have h63' : i + k ≤ maxLen := by simpa [maxLen] using h63
  have hge := grownCap_ge w (i + k) cap E
  refine ⟨_, _, _, hr, Blk.new w.drew _ _, ((Mod.refl [] w).drew.alloc _), hge, grownCap_le_maxLen w (i + k) cap E h63', ?_, ?_⟩
  · have hlt : (xs.take (i * inf.size)).length = i * inf.size := by rw [List.length_take, hown.1]; exact Nat.min_eq_left (Nat.mul_le_mul_right _ hi)
    simp only [Array.size_append, List.size_toArray, size_zeroCells, hzs, hlt, ← Nat.add_mul]
    exact Nat.mul_le_mul_right _ (by omega)
  · have hlt : (xs.take (i * inf.size)).length = i * inf.size := by rw [List.length_take, hown.1]; exact Nat.min_eq_left (Nat.mul_le_mul_right _ hi)
    simp only [Array.toList_append, List.append_assoc]
    exact List.take_left' hlt
end
end Go.Proofs.Ytocfeeecgpklnaa
