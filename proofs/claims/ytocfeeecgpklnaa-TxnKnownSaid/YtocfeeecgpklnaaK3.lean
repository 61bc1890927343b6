/- A slice that the program owns, and a slice that is read: append as a law that says which blocks the new value has. No program in sight. -/
import Derived.Test.YtocfeeecgpklnaaK2
namespace Go.Proofs.Ytocfeeecgpklnaa
open Go.RowKit

/-- The value is a slice of n elements (sz cells each), which hold xs; what it may grow into is its own: block L, from its head on. -/
def Own (w : World) (E : TypeId) (sz : Nat) (v : Value) (n : Nat) (xs : List Value) (L : List Nat) : Prop :=
  xs.length = n * sz ∧ ((v = .slice none 0 0 ∧ n = 0 ∧ L = []) ∨
    ∃ g cap cur, v = .slice (some ⟨g, 0, none⟩) n cap ∧ L = [g] ∧ Blk w g cur E ∧ n ≤ cap ∧ cap ≤ maxLen ∧ cap * sz ≤ cur.size ∧ cur.toList.take (n * sz) = xs)

/-- The value is a slice of n elements, which hold xs: to be read. -/
def Rdl (w : World) (sz : Nat) (v : Value) (n : Nat) (xs : List Value) : Prop :=
  xs.length = n * sz ∧ ((v = .slice none 0 0 ∧ n = 0) ∨ ∃ b off cap, v = .slice (some ⟨b, off, none⟩) n cap ∧ ∀ j, j < n * sz → w.cell? ⟨b, off + j, none⟩ = xs[j]?)

theorem Own.nil (w : World) (E : TypeId) (sz : Nat) : Own w E sz (.slice none 0 0) 0 [] [] := ⟨by simp, Or.inl ⟨rfl, rfl, rfl⟩⟩

theorem Own.lt {w : World} {E : TypeId} {sz : Nat} {v : Value} {n : Nat} {xs : List Value} {L : List Nat} (h : Own w E sz v n xs L) : ∀ k ∈ L, k < w.heap.size := by
  intro k hk
  rcases h.2 with ⟨_, _, rfl⟩ | ⟨g, cap, cur, _, rfl, hb, _⟩
  · cases hk
  · simp at hk; subst hk; exact hb.lt

theorem Own.mod {w w' : World} {E : TypeId} {sz : Nat} {v : Value} {n : Nat} {xs : List Value} {L M : List Nat} (h : Own w E sz v n xs L) (hm : Mod M w w') (hd : ∀ k ∈ L, k ∉ M) : Own w' E sz v n xs L := by
  refine ⟨h.1, ?_⟩
  rcases h.2 with h0 | ⟨g, cap, cur, h1, h2, hb, h3⟩
  · exact Or.inl h0
  · exact Or.inr ⟨g, cap, cur, h1, h2, hm.blk hb (hd g (by rw [h2]; simp)), h3⟩

theorem Own.len {w : World} {E : TypeId} {sz : Nat} {v : Value} {n : Nat} {xs : List Value} {L : List Nat} (h : Own w E sz v n xs L) : n ≤ 9223372036854775807 := by
  rcases h.2 with ⟨_, rfl, _⟩ | ⟨g, cap, cur, _, _, _, h1, h2, _⟩
  · omega
  · simp [maxLen] at h2; omega

/-- Its shape, as a value. -/
theorem Own.val {w : World} {E : TypeId} {sz : Nat} {v : Value} {n : Nat} {xs : List Value} {L : List Nat} (h : Own w E sz v n xs L) : ∃ a cap, v = .slice a n cap ∧ n ≤ cap ∧ cap ≤ 9223372036854775807 ∧ (0 < n → ∃ g, a = some ⟨g, 0, none⟩ ∧ L = [g] ∧ ∀ j, j < n * sz → w.cell? ⟨g, j, none⟩ = xs[j]?) := by
  rcases h.2 with ⟨rfl, rfl, rfl⟩ | ⟨g, cap, cur, rfl, rfl, hb, h1, h2, h3, h4⟩
  · exact ⟨none, 0, rfl, by omega, by omega, fun h => by omega⟩
  · refine ⟨_, cap, rfl, h1, by simpa [maxLen] using h2, fun _ => ⟨g, rfl, rfl, fun j hj => ?_⟩⟩
    rw [hb.cell, ← h4, List.getElem?_take, if_pos hj]
    simp

/-- Read from here to there. -/
theorem Own.rdl {w : World} {E : TypeId} {sz : Nat} {v : Value} {n : Nat} {xs : List Value} {L : List Nat} (h : Own w E sz v n xs L) : Rdl w sz v n xs := by
  refine ⟨h.1, ?_⟩
  rcases h.2 with ⟨rfl, rfl, rfl⟩ | ⟨g, cap, cur, rfl, rfl, hb, h1, h2, h3, h4⟩
  · exact Or.inl ⟨rfl, rfl⟩
  · refine Or.inr ⟨g, 0, cap, rfl, fun j hj => ?_⟩
    rw [Nat.zero_add, hb.cell, ← h4, List.getElem?_take, if_pos hj]
    simp

theorem Rdl.mod {w w' : World} {sz : Nat} {v : Value} {n : Nat} {xs : List Value} {M : List Nat} (h : Rdl w sz v n xs) (hm : Mod M w w') (hd : ∀ b off cap, v = .slice (some ⟨b, off, none⟩) n cap → b ∉ M) : Rdl w' sz v n xs := by
  refine ⟨h.1, ?_⟩
  rcases h.2 with h0 | ⟨b, off, cap, hv, hc⟩
  · exact Or.inl h0
  · refine Or.inr ⟨b, off, cap, hv, fun j hj => ?_⟩
    have h2 := hc j hj
    rw [← h2]
    have hj' : j < xs.length := by rw [h.1]; exact hj
    rw [List.getElem?_eq_getElem hj'] at h2
    rw [hm.cellSome h2 (hd b off cap hv), h2]

/-- append of a slice that is read, run. -/
theorem run_append_rdl {P : Program} {w : World} (t ty E : TypeId) {z : Value} {sz bytes : Nat} (ht : P.underlying t = some (.slice E)) (he : (P.info? E).map (fun i => (i.zero, i.size, i.bytes)) = some (some z, sz, bytes)) (hzs : z.cells.size = sz) (hsz : 0 < sz)
    {v : Value} {n : Nat} {xs : List Value} {L : List Nat} (hown : Own w E sz v n xs L) {x : Value} {m : Nat} {ys : List Value} (hx : Rdl w sz x m ys) (h1 : ∀ u ∈ ys, u.oneCell' = true)
    (h63 : n + m ≤ 9223372036854775807) (hbytes : (n + m) * bytes ≤ 140737488355328) :
    ∃ v' w' L', (Builtin.append_ #[t, t] ty #[v, x]).run P w = .ok v' w' ∧ Own w' E sz v' (n + m) (xs ++ ys) L' ∧ Mod L w w' ∧ (∀ k ∈ L', k ∈ L ∨ w.heap.size ≤ k) := by
  obtain ⟨i, hi, hz, hsize, hby⟩ := info_parts he
  subst hsize
  subst hby
  have h63' : n + m ≤ maxLen := by simpa [maxLen] using h63
  have hlen : (xs ++ ys).length = (n + m) * i.size := by rw [List.length_append, hown.1, hx.1, Nat.add_mul]
  rcases hx.2 with ⟨rfl, rfl⟩ | ⟨b, off, cp, rfl, hc⟩
  · have hys : ys = [] := List.eq_nil_of_length_eq_zero (by simpa using hx.1)
    subst hys
    refine ⟨v, w, L, ?_, by simpa using hown, Mod.refl _ _, fun k hk => Or.inl hk⟩
    rcases hown.2 with ⟨rfl, rfl, _⟩ | ⟨g, cap, cur, rfl, _, _, hnc, _⟩
    · simp [Builtin.append_, run_underlying ht, sizeOf, typeInfo, hi, Builtin.lenOf, Builtin.firstCells]
    · simp [Builtin.append_, run_underlying ht, sizeOf, typeInfo, hi, Builtin.lenOf, Builtin.firstCells, hnc, storeCells]
  · have hnews : ∀ j u, ys[j]? = some u → w.cell? ((⟨b, off, none⟩ : Addr).add j) = some u := by
      intro j u hj
      have hjl : j < ys.length := by
        rcases Nat.lt_or_ge j ys.length with h | h
        · exact h
        · rw [List.getElem?_eq_none h] at hj; cases hj
      have hadd : (⟨b, off, none⟩ : Addr).add j = ⟨b, off + j, none⟩ := by unfold Addr.add; split <;> simp_all
      rw [hadd, hc j (by rw [← hx.1]; exact hjl)]; exact hj
    have grown : ∀ (old : Nat), old < n + m →
        Own (w.drew.alloc (.cells (xs.toArray ++ ys.toArray ++ Builtin.zeroCells z.cells (grownCap w (n + m) old E - (n + m))) E)) E i.size (.slice (some ⟨w.heap.size, 0, none⟩) (n + m) (grownCap w (n + m) old E)) (n + m) (xs ++ ys) [w.heap.size] := by
      intro old ho
      refine ⟨hlen, Or.inr ⟨w.heap.size, _, _, rfl, rfl, Blk.new w.drew _ _, grownCap_ge w (n + m) old E, grownCap_le_maxLen w (n + m) old E h63', ?_, ?_⟩⟩
      · have hge := grownCap_ge w (n + m) old E
        simp only [Array.size_append, List.size_toArray, size_zeroCells, hzs, hown.1, hx.1, ← Nat.add_mul]
        exact Nat.mul_le_mul_right _ (by omega)
      · simp only [Array.toList_append, List.append_assoc]
        rw [← List.append_assoc, ← hlen]
        exact List.take_left
    rcases hown.2 with ⟨rfl, rfl, rfl⟩ | ⟨g, cap, cur, rfl, rfl, hb, hnc, hcm, hcs, htake⟩
    · have hxs : xs = [] := List.eq_nil_of_length_eq_zero (by simpa using hown.1)
      subst hxs
      by_cases hm : m = 0
      · subst hm
        have hys : ys = [] := List.eq_nil_of_length_eq_zero (by simpa using hx.1)
        subst hys
        refine ⟨.slice none 0 0, w, [], ?_, Own.nil _ _ _, Mod.refl _ _, fun k hk => Or.inl hk⟩
        simp [Builtin.append_, run_underlying ht, sizeOf, typeInfo, hi, Builtin.lenOf, Builtin.firstCells, loadCells, loadCellsFrom]
      · have hr := run_append_nil (P := P) w t ty E i z ht hi hz ⟨b, off, none⟩ m cp ys hx.1 hnews (by omega) (by omega) (by have hb := hbytes; simp only [Nat.zero_add] at hb; omega)
        have hgr := grown 0 (by omega)
        simp only [Nat.zero_add, List.nil_append, Array.empty_append] at hgr ⊢
        exact ⟨_, _, _, hr, hgr, ((Mod.refl _ _).drew.alloc _), fun k hk => Or.inr (by simp at hk; omega)⟩
    · by_cases hroom : n + m ≤ cap
      · have hfit : n * i.size + ys.length ≤ cur.size := by rw [hx.1, ← Nat.add_mul]; exact Nat.le_trans (Nat.mul_le_mul_right _ hroom) hcs
        have hr := run_append_room (P := P) w t ty E i ht hi g n cap cur hb ⟨b, off, none⟩ m cp ys hx.1 hnews h1 hroom hfit
        refine ⟨_, _, [g], hr, ⟨hlen, Or.inr ⟨g, cap, _, rfl, rfl, setRow_heap w g cur _ E _ hb, hroom, hcm, ?_, ?_⟩⟩, ⟨rfl, rfl, rfl, by simp, fun k _ hk => setRow_other w g k _ (by simpa using hk)⟩, fun k hk => Or.inl hk⟩
        · simp only [List.size_toArray, List.length_append, List.length_take, List.length_drop, Array.length_toList]
          omega
        · rw [htake, ← hlen]
          exact List.take_left
      · have holds : ∀ j u, xs[j]? = some u → w.cell? ((⟨g, 0, none⟩ : Addr).add j) = some u := by
          intro j u hj
          have hadd : (⟨g, 0, none⟩ : Addr).add j = ⟨g, j, none⟩ := by unfold Addr.add; split <;> simp_all
          rw [hadd, hb.cell, ← Array.getElem?_toList]
          rw [← htake, List.getElem?_take] at hj
          split at hj
          · exact hj
          · cases hj
        have hr := run_append_grow (P := P) w t ty E i z ht hi hz ⟨g, 0, none⟩ n cap xs hown.1 holds ⟨b, off, none⟩ m cp ys hx.1 hnews (by omega) (by omega) (growslice_fits (by omega) hbytes)
        exact ⟨_, _, _, hr, grown cap (by omega), ((Mod.refl _ _).drew.alloc _), fun k hk => Or.inr (by simp at hk; omega)⟩

section
variable {P : Program} {w : World}
/-- append in a list of operations. -/
theorem wpList_append_rdl {ops : Array Oper} {rest : List Oper} {o : Oper} {a : Act} {Q : Exit → Act → World → Prop} (hgd : o.guard = none) (s x : Operand) (t E : TypeId)
    (ho : o.op = .call { callee := .builtin .append, args := #[s, x], argTypes := #[t, t] })
    {z : Value} {sz bytes : Nat} (ht : P.underlying t = some (.slice E)) (he : (P.info? E).map (fun i => (i.zero, i.size, i.bytes)) = some (some z, sz, bytes)) (hzs : z.cells.size = sz) (hsz : 0 < sz)
    {v : Value} (hs : a.eval s = v) {n : Nat} {xs : List Value} {L : List Nat} (hown : Own w E sz v n xs L) {y : Value} (hy : a.eval x = y) {m : Nat} {ys : List Value} (hx : Rdl w sz y m ys) (h1 : ∀ u ∈ ys, u.oneCell' = true)
    (h63 : n + m ≤ 9223372036854775807) (hbytes : (n + m) * bytes ≤ 140737488355328)
    (h : ∀ v' w' L', Hid (Own w' E sz v' (n + m) (xs ++ ys) L') → Hid (Mod L w w') → Hid (∀ k ∈ L', k ∈ L ∨ w.heap.size ≤ k) → wpList P ops Q rest (a.put o.dst v') w') :
    wpList P ops Q (o :: rest) a w := by
  obtain ⟨v', w', L', hrun, h2, h3, h4⟩ := run_append_rdl (P := P) t o.type E ht he hzs hsz hown hx h1 h63 hbytes
  refine wpList_plain hgd fun K hK => ?_
  unfold Oper.wp
  simp [execOp, ho, resolve, invoke, builtin, hs, hy, hrun, Result.andThen]
  exact hK _ _ (h v' w' L' h2 h3 h4)

/-- append as a step of a region that draws its order. -/
theorem step_append_rdl {ops : Array Oper} {o : Oper} {a : Act} {K : Act → World → Prop} {Q : Exit → Act → World → Prop} {F : Prop} (hgd : o.guard = none) (s x : Operand) (t E : TypeId)
    (ho : o.op = .call { callee := .builtin .append, args := #[s, x], argTypes := #[t, t] })
    {z : Value} {sz bytes : Nat} (ht : P.underlying t = some (.slice E)) (he : (P.info? E).map (fun i => (i.zero, i.size, i.bytes)) = some (some z, sz, bytes)) (hzs : z.cells.size = sz) (hsz : 0 < sz)
    {v : Value} (hs : a.eval s = v) {n : Nat} {xs : List Value} {L : List Nat} (hown : Own w E sz v n xs L) {y : Value} (hy : a.eval x = y) {m : Nat} {ys : List Value} (hx : Rdl w sz y m ys) (h1 : ∀ u ∈ ys, u.oneCell' = true)
    (h63 : n + m ≤ 9223372036854775807) (hbytes : (n + m) * bytes ≤ 140737488355328)
    (h : ∀ v' w' L', Hid (Own w' E sz v' (n + m) (xs ++ ys) L') → Hid (Mod L w w') → Hid (∀ k ∈ L', k ∈ L ∨ w.heap.size ≤ k) → K (a.put o.dst v') w') :
    if Region.wanted o (yielded ops a.tmps) = true then Oper.wp P o a w K Q else F := by
  have hw : Region.wanted o (yielded ops a.tmps) = true := by simp [Region.wanted, hgd]
  rw [if_pos hw]
  obtain ⟨v', w', L', hrun, h2, h3, h4⟩ := run_append_rdl (P := P) t o.type E ht he hzs hsz hown hx h1 h63 hbytes
  unfold Oper.wp
  simp [execOp, ho, resolve, invoke, builtin, hs, hy, hrun, Result.andThen]
  exact h v' w' L' h2 h3 h4
end
end Go.Proofs.Ytocfeeecgpklnaa
