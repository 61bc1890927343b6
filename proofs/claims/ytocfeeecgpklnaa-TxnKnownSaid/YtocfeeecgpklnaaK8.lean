/- append with room, as a law of the owned slice; the owned slice's beginnings. No program in sight. -/
import Derived.Test.YtocfeeecgpklnaaK7
namespace Go.Proofs.Ytocfeeecgpklnaa
set_option linter.unusedVariables false
set_option linter.unusedSimpArgs false
set_option linter.unusedSectionVars false
open Go.RowKit

section
variable {P : Program} {w : World}
theorem run_append_room_own (t ty E : TypeId) {z : Value} {sz bytes : Nat} (ht : P.underlying t = some (.slice E)) (he : (P.info? E).map (fun i => (i.zero, i.size, i.bytes)) = some (some z, sz, bytes))
    {g n cap : Nat} {xs : List Value} (hown : Own w E sz (.slice (some ⟨g, 0, none⟩) n cap) n xs [g]) {x : Value} {m : Nat} {ys : List Value} (hx : Rdl w sz x m ys) (h1 : ∀ u ∈ ys, u.oneCell' = true) (hroom : n + m ≤ cap) :
    ∃ w', (Builtin.append_ #[t, t] ty #[.slice (some ⟨g, 0, none⟩) n cap, x]).run P w = .ok (.slice (some ⟨g, 0, none⟩) (n + m) cap) w' ∧ Own w' E sz (.slice (some ⟨g, 0, none⟩) (n + m) cap) (n + m) (xs ++ ys) [g] ∧ Mod [g] w w' := by
  obtain ⟨i, hi, hz, hsize, hby⟩ := info_parts he
  subst hsize
  rcases hown.2 with ⟨h0, _⟩ | ⟨g', cap', cur, e, _, hb, hnc, hcm, hcs, htake⟩
  · cases h0
  simp only [Value.slice.injEq, Option.some.injEq, Addr.mk.injEq, and_true, true_and] at e
  obtain ⟨rfl, rfl⟩ := e
  have hlen : (xs ++ ys).length = (n + m) * i.size := by rw [List.length_append, hown.1, hx.1, Nat.add_mul]
  rcases hx.2 with ⟨rfl, rfl⟩ | ⟨b, off, cp, rfl, hc⟩
  · have hys : ys = [] := List.eq_nil_of_length_eq_zero (by simpa using hx.1)
    subst hys
    refine ⟨w, ?_, by simpa using hown, Mod.refl _ _⟩
    simp [Builtin.append_, run_underlying ht, sizeOf, typeInfo, hi, Builtin.lenOf, Builtin.firstCells, hnc, storeCells]
  · have hnews : ∀ j u, ys[j]? = some u → w.cell? ((⟨b, off, none⟩ : Addr).add j) = some u := by
      intro j u hj
      have hjl : j < ys.length := by
        rcases Nat.lt_or_ge j ys.length with h | h
        · exact h
        · rw [List.getElem?_eq_none h] at hj; cases hj
      have hadd : (⟨b, off, none⟩ : Addr).add j = ⟨b, off + j, none⟩ := by unfold Addr.add; split <;> simp_all
      rw [hadd, hc j (by rw [← hx.1]; exact hjl)]; exact hj
    have hfit : n * i.size + ys.length ≤ cur.size := by rw [hx.1, ← Nat.add_mul]; exact Nat.le_trans (Nat.mul_le_mul_right _ hroom) hcs
    have hr := run_append_room (P := P) w t ty E i ht hi g n cap cur hb ⟨b, off, none⟩ m cp ys hx.1 hnews h1 hroom hfit
    refine ⟨_, hr, ⟨hlen, Or.inr ⟨g, cap, _, rfl, rfl, setRow_heap w g cur _ E _ hb, hroom, hcm, ?_, ?_⟩⟩, ⟨rfl, rfl, rfl, by simp, fun k _ hk => setRow_other w g k _ (by simpa using hk)⟩⟩
    · simp only [List.size_toArray, List.length_append, List.length_take, List.length_drop, Array.length_toList]
      omega
    · rw [htake, ← hlen]
      exact List.take_left

theorem step_append_room {ops : Array Oper} {o : Oper} {a : Act} {K : Act → World → Prop} {Q : Exit → Act → World → Prop} {F : Prop} (hgd : o.guard = none) (s x : Operand) (t E : TypeId)
    (ho : o.op = .call { callee := .builtin .append, args := #[s, x], argTypes := #[t, t] })
    {z : Value} {sz bytes : Nat} (ht : P.underlying t = some (.slice E)) (he : (P.info? E).map (fun i => (i.zero, i.size, i.bytes)) = some (some z, sz, bytes))
    (g n cap : Nat) (xs : List Value) (hs : a.eval s = .slice (some ⟨g, 0, none⟩) n cap) (hown : Own w E sz (.slice (some ⟨g, 0, none⟩) n cap) n xs [g]) (y : Value) (hy : a.eval x = y) (m : Nat) (ys : List Value) (hx : Rdl w sz y m ys) (h1 : ∀ u ∈ ys, u.oneCell' = true)
    (hroom : n + m ≤ cap)
    (h : ∀ w', Hid (Own w' E sz (.slice (some ⟨g, 0, none⟩) (n + m) cap) (n + m) (xs ++ ys) [g]) → Hid (Mod [g] w w') → K (a.put o.dst (.slice (some ⟨g, 0, none⟩) (n + m) cap)) w') :
    if Region.wanted o (yielded ops a.tmps) = true then Oper.wp P o a w K Q else F := by
  have hw : Region.wanted o (yielded ops a.tmps) = true := by simp [Region.wanted, hgd]
  rw [if_pos hw]
  obtain ⟨w', hrun, h2, h3⟩ := run_append_room_own (P := P) t o.type E ht he hown hx h1 hroom
  unfold Oper.wp
  simp [execOp, ho, resolve, invoke, builtin, hs, hy, hrun, Result.andThen]
  exact h w' h2 h3

theorem Own.begin {E : TypeId} {sz g n cap k : Nat} {xs : List Value} {L : List Nat} (h : Own w E sz (.slice (some ⟨g, 0, none⟩) n cap) n xs L) (hk : k ≤ n) : Own w E sz (.slice (some ⟨g, 0, none⟩) k cap) k (xs.take (k * sz)) L := by
  have hm : k * sz ≤ n * sz := Nat.mul_le_mul_right _ hk
  refine ⟨by rw [List.length_take, h.1]; exact Nat.min_eq_left hm, ?_⟩
  rcases h.2 with ⟨h0, _⟩ | ⟨g', cap', cur, e, e2, hb, hnc, hcm, hcs, htake⟩
  · cases h0
  simp only [Value.slice.injEq, Option.some.injEq, Addr.mk.injEq, and_true, true_and] at e
  obtain ⟨rfl, rfl⟩ := e
  refine Or.inr ⟨g, cap, cur, rfl, e2, hb, by omega, hcm, hcs, ?_⟩
  rw [← htake, List.take_take, Nat.min_eq_left hm]
/-- Of an owned slice the end is read. -/
theorem Own.ending {E : TypeId} {sz g n cap k : Nat} {xs : List Value} {L : List Nat} (h : Own w E sz (.slice (some ⟨g, 0, none⟩) n cap) n xs L) (hk : k ≤ n) (c' off : Nat) (ho : k < n → off = k * sz) : Rdl w sz (.slice (some ⟨g, off, none⟩) (n - k) c') (n - k) (xs.drop (k * sz)) := by
  have hm : k * sz ≤ n * sz := Nat.mul_le_mul_right _ hk
  have hms : k * sz + (n - k) * sz = n * sz := by rw [← Nat.add_mul]; congr 1; omega
  refine ⟨by rw [List.length_drop, h.1]; omega, Or.inr ⟨g, off, c', rfl, fun j hj => ?_⟩⟩
  rcases h.2 with ⟨h0, _⟩ | ⟨g', cap', cur, e, e2, hb, hnc, hcm, hcs, htake⟩
  · cases h0
  simp only [Value.slice.injEq, Option.some.injEq, Addr.mk.injEq, and_true, true_and] at e
  obtain ⟨rfl, rfl⟩ := e
  have hkn : k < n := by
    rcases Nat.lt_or_ge k n with h | h
    · exact h
    · have : n - k = 0 := by omega
      rw [this, Nat.zero_mul] at hj; omega
  rw [ho hkn, hb.cell, ← htake, List.getElem?_drop, List.getElem?_take, if_pos (by omega)]
  simp
/-- A block that is the same below an offset still holds an owned slice's elements. -/
theorem Own.keep {w' : World} {E : TypeId} {sz g n cap : Nat} {xs : List Value} {cur cur' : Array Value} (h : Own w E sz (.slice (some ⟨g, 0, none⟩) n cap) n xs [g]) (hb : Blk w g cur E) (hb' : Blk w' g cur' E) (hs : cur'.size = cur.size) (hc : ∀ j, j < n * sz → cur'[j]? = cur[j]?) :
    Own w' E sz (.slice (some ⟨g, 0, none⟩) n cap) n xs [g] := by
  refine ⟨h.1, ?_⟩
  rcases h.2 with ⟨h0, _⟩ | ⟨g', cap', cur2, e, e2, hb2, hnc, hcm, hcs, htake⟩
  · cases h0
  simp only [Value.slice.injEq, Option.some.injEq, Addr.mk.injEq, and_true, true_and] at e
  obtain ⟨rfl, rfl⟩ := e
  obtain rfl := hb.inj hb2
  refine Or.inr ⟨g, cap, cur', rfl, rfl, hb', hnc, hcm, by omega, ?_⟩
  rw [← htake]
  apply List.ext_getElem?
  intro j
  rw [List.getElem?_take, List.getElem?_take]
  split
  · rename_i hj
    have := hc j hj
    simpa using this
  · rfl
end
end Go.Proofs.Ytocfeeecgpklnaa
