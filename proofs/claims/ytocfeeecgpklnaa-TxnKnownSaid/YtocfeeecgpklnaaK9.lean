/- append of what is read (empty or not); a slice that lies somewhere in a block of its own (Seg). No program in sight. -/
import Derived.Test.YtocfeeecgpklnaaK8
namespace Go.Proofs.Ytocfeeecgpklnaa
set_option linter.unusedVariables false
set_option linter.unusedSimpArgs false
set_option linter.unusedSectionVars false
open Go.RowKit

section
variable {X : Type} {C : Nat} {f : X → List Value} {P : Program} {w : World}
theorem run_append_lx (hf : Lays C f) (t ty E : TypeId) {z : Value} {bytes : Nat} (ht : P.underlying t = some (.slice E)) (he : (P.info? E).map (fun i => (i.zero, i.size, i.bytes)) = some (some z, C, bytes)) (hzs : z.cells.size = C)
    {v : Value} {n : Nat} {xs : List Value} {L : List Nat} (hown : Own w E C v n xs L) {y : Value} {l : List X} (hx : Lx C f w y l)
    (h63 : n + l.length ≤ 9223372036854775807) (hbytes : (n + l.length) * bytes ≤ 140737488355328) :
    ∃ v' w' L', (Builtin.append_ #[t, t] ty #[v, y]).run P w = .ok v' w' ∧ Own w' E C v' (n + l.length) (xs ++ flat f l) L' ∧ Mod L w w' ∧ (∀ k ∈ L', k ∈ L ∨ w.heap.size ≤ k) := by
  rcases Nat.eq_zero_or_pos l.length with h0 | h0
  · have hnil := List.eq_nil_of_length_eq_zero h0
    subst hnil
    obtain ⟨a, cap, rfl, _, _⟩ := hx
    obtain ⟨ad, c, rfl, hnc, _⟩ := hown.val
    have hsz : (P.info? E).map (·.size) = some C := by
      cases hq : P.info? E with
      | none => simp [hq] at he
      | some i => simp [hq] at he; simp [he]
    refine ⟨_, w, L, run_append_none t ty E ht hsz ad n c hnc a cap, by simpa [flat] using hown, Mod.refl _ _, fun k hk => Or.inl hk⟩
  · exact run_append_rdl t ty E ht he hzs hf.pos hown (hx.rdl hf h0) (flat_one hf l) h63 hbytes

theorem wpList_append_lx (hf : Lays C f) {ops : Array Oper} {rest : List Oper} {o : Oper} {a : Act} {Q : Exit → Act → World → Prop} (hgd : o.guard = none) (s x : Operand) (t E : TypeId)
    (ho : o.op = .call { callee := .builtin .append, args := #[s, x], argTypes := #[t, t] })
    {z : Value} {bytes : Nat} (ht : P.underlying t = some (.slice E)) (he : (P.info? E).map (fun i => (i.zero, i.size, i.bytes)) = some (some z, C, bytes)) (hzs : z.cells.size = C)
    {v : Value} (hs : a.eval s = v) {n : Nat} {xs : List Value} {L : List Nat} (hown : Own w E C v n xs L) {y : Value} (hy : a.eval x = y) {l : List X} (hx : Lx C f w y l)
    (h63 : n + l.length ≤ 9223372036854775807) (hbytes : (n + l.length) * bytes ≤ 140737488355328)
    (h : ∀ v' w' L', Hid (Own w' E C v' (n + l.length) (xs ++ flat f l) L') → Hid (Mod L w w') → Hid (∀ k ∈ L', k ∈ L ∨ w.heap.size ≤ k) → wpList P ops Q rest (a.put o.dst v') w') :
    wpList P ops Q (o :: rest) a w := by
  obtain ⟨v', w', L', hrun, h2, h3, h4⟩ := run_append_lx (P := P) hf t o.type E ht he hzs hown hx h63 hbytes
  refine wpList_plain hgd fun K hK => ?_
  unfold Oper.wp
  simp [execOp, ho, resolve, invoke, builtin, hs, hy, hrun, Result.andThen]
  exact hK _ _ (h v' w' L' h2 h3 h4)

theorem step_append_lx (hf : Lays C f) {ops : Array Oper} {o : Oper} {a : Act} {K : Act → World → Prop} {Q : Exit → Act → World → Prop} {F : Prop} (hgd : o.guard = none) (s x : Operand) (t E : TypeId)
    (ho : o.op = .call { callee := .builtin .append, args := #[s, x], argTypes := #[t, t] })
    {z : Value} {bytes : Nat} (ht : P.underlying t = some (.slice E)) (he : (P.info? E).map (fun i => (i.zero, i.size, i.bytes)) = some (some z, C, bytes)) (hzs : z.cells.size = C)
    {v : Value} (hs : a.eval s = v) {n : Nat} {xs : List Value} {L : List Nat} (hown : Own w E C v n xs L) {y : Value} (hy : a.eval x = y) {l : List X} (hx : Lx C f w y l)
    (h63 : n + l.length ≤ 9223372036854775807) (hbytes : (n + l.length) * bytes ≤ 140737488355328)
    (h : ∀ v' w' L', Hid (Own w' E C v' (n + l.length) (xs ++ flat f l) L') → Hid (Mod L w w') → Hid (∀ k ∈ L', k ∈ L ∨ w.heap.size ≤ k) → K (a.put o.dst v') w') :
    if Region.wanted o (yielded ops a.tmps) = true then Oper.wp P o a w K Q else F := by
  have hw : Region.wanted o (yielded ops a.tmps) = true := by simp [Region.wanted, hgd]
  rw [if_pos hw]
  obtain ⟨v', w', L', hrun, h2, h3, h4⟩ := run_append_lx (P := P) hf t o.type E ht he hzs hown hx h63 hbytes
  unfold Oper.wp
  simp [execOp, ho, resolve, invoke, builtin, hs, hy, hrun, Result.andThen]
  exact h v' w' L' h2 h3 h4
end

/-- The value is a slice of n elements (sz cells each), which hold xs; they lie in a block of its own, from some place on. -/
def Seg (w : World) (E : TypeId) (sz : Nat) (v : Value) (n : Nat) (xs : List Value) (L : List Nat) : Prop :=
  xs.length = n * sz ∧ ((n = 0 ∧ L = [] ∧ ∃ a cap, v = .slice a 0 cap ∧ (a = none ∧ cap = 0 ∨ ∃ g off, a = some ⟨g, off, none⟩)) ∨
    ∃ g off cap cur, v = .slice (some ⟨g, off, none⟩) n cap ∧ L = [g] ∧ Blk w g cur E ∧ n ≤ cap ∧ off + n * sz ≤ cur.size ∧ ∀ j, j < n * sz → cur[off + j]? = xs[j]?)

theorem Own.seg {w : World} {E : TypeId} {sz : Nat} {v : Value} {n : Nat} {xs : List Value} {L : List Nat} (h : Own w E sz v n xs L) : Seg w E sz v n xs L := by
  refine ⟨h.1, ?_⟩
  rcases h.2 with ⟨rfl, h0, rfl⟩ | ⟨g, cap, cur, rfl, rfl, hb, h1, h2, h3, h4⟩
  · exact Or.inl ⟨h0, rfl, none, 0, rfl, Or.inl ⟨rfl, rfl⟩⟩
  · refine Or.inr ⟨g, 0, cap, cur, rfl, rfl, hb, h1, ?_, fun j hj => ?_⟩
    · rw [Nat.zero_add]; exact Nat.le_trans (Nat.mul_le_mul_right _ h1) h3
    · rw [Nat.zero_add, ← h4, List.getElem?_take, if_pos hj]; simp
theorem Seg.lt {w : World} {E : TypeId} {sz : Nat} {v : Value} {n : Nat} {xs : List Value} {L : List Nat} (h : Seg w E sz v n xs L) : ∀ k ∈ L, k < w.heap.size := by
  intro k hk
  rcases h.2 with ⟨_, rfl, _⟩ | ⟨g, off, cap, cur, _, rfl, hb, _⟩
  · cases hk
  · simp at hk; subst hk; exact hb.lt
theorem Seg.mod {w w' : World} {E : TypeId} {sz : Nat} {v : Value} {n : Nat} {xs : List Value} {L M : List Nat} (h : Seg w E sz v n xs L) (hm : Mod M w w') (hd : ∀ k ∈ L, k ∉ M) : Seg w' E sz v n xs L := by
  refine ⟨h.1, ?_⟩
  rcases h.2 with h0 | ⟨g, off, cap, cur, h1, h2, hb, h3⟩
  · exact Or.inl h0
  · exact Or.inr ⟨g, off, cap, cur, h1, h2, hm.blk hb (hd g (by rw [h2]; simp)), h3⟩
theorem Seg.lx {X : Type} {C : Nat} {f : X → List Value} (hf : Lays C f) {w : World} {E : TypeId} {v : Value} {l : List X} {L : List Nat} (h : Seg w E C v l.length (flat f l) L) (hl : l.length ≤ 9223372036854775807) : Lx C f w v l := by
  rcases h.2 with ⟨h0, rfl, a, cap, rfl, _⟩ | ⟨g, off, cap, cur, rfl, rfl, hb, h1, h2, h3⟩
  · have := List.eq_nil_of_length_eq_zero h0
    subst this
    exact ⟨a, cap, rfl, Or.inl rfl, by simp⟩
  · refine ⟨_, cap, rfl, Or.inr ⟨g, off, rfl, fun i x hx j v hj => ?_⟩, hl⟩
    have hjC : j < C := by rw [← hf.len x]; exact (List.getElem?_eq_some_iff.1 hj).1
    have hi := (List.getElem?_eq_some_iff.1 hx).1
    have e := flat_at hf _ i x hx j hjC
    have hlt : i * C + j < l.length * C := by
      calc i * C + j < i * C + C := by omega
        _ = (i + 1) * C := by rw [Nat.succ_mul]
        _ ≤ l.length * C := Nat.mul_le_mul_right _ hi
    rw [hb.cell, Nat.add_assoc, h3 _ hlt, e, hj]
theorem Seg.val {w : World} {E : TypeId} {sz : Nat} {v : Value} {n : Nat} {xs : List Value} {L : List Nat} (h : Seg w E sz v n xs L) : ∃ a cap, v = .slice a n cap ∧ n ≤ cap ∧ (a = none ∧ cap = 0 ∧ n = 0 ∨ ∃ g off, a = some ⟨g, off, none⟩) ∧ (0 < n → ∃ g off, a = some ⟨g, off, none⟩ ∧ L = [g] ∧ ∃ cur, Blk w g cur E) := by
  rcases h.2 with ⟨rfl, _, a, cap, rfl, h0⟩ | ⟨g, off, cap, cur, rfl, rfl, hb, h1, _⟩
  · exact ⟨a, cap, rfl, Nat.zero_le _, h0.imp (fun h => ⟨h.1, h.2, rfl⟩) id, fun h => by omega⟩
  · exact ⟨_, cap, rfl, h1, Or.inr ⟨g, off, rfl⟩, fun _ => ⟨g, off, rfl, rfl, cur, hb⟩⟩
theorem Seg.set {w : World} {E : TypeId} {sz g off n cap : Nat} {xs : List Value} {L : List Nat} (h : Seg w E sz (.slice (some ⟨g, off, none⟩) n cap) n xs L) (k : Nat) (hk : k < n * sz) (u : Value) :
    Seg (w.setCell ⟨g, off + k, none⟩ u) E sz (.slice (some ⟨g, off, none⟩) n cap) n (xs.set k u) L := by
  refine ⟨by rw [List.length_set]; exact h.1, ?_⟩
  rcases h.2 with ⟨h0, _⟩ | ⟨g', off', cap', cur, e, rfl, hb, h1, h2, h3⟩
  · subst h0; simp at hk
  · simp only [Value.slice.injEq, Option.some.injEq, Addr.mk.injEq, and_true, true_and] at e
    obtain ⟨⟨rfl, rfl⟩, rfl⟩ := e
    refine Or.inr ⟨g, off, cap, cur.setIfInBounds (off + k) u, rfl, rfl, hb.set (off + k) u, h1, by simpa using h2, fun j hj => ?_⟩
    rw [Array.getElem?_setIfInBounds, List.getElem?_set]
    by_cases e : k = j
    · subst e
      have hlt : off + k < cur.size := by omega
      have hxl : k < xs.length := by rw [h.1]; exact hk
      simp [hlt, hxl]
    · rw [if_neg (by omega), if_neg e, h3 j hj]
/-- The end of it. -/
theorem Seg.drop {w : World} {E : TypeId} {sz g off n cap : Nat} {xs : List Value} {L : List Nat} (h : Seg w E sz (.slice (some ⟨g, off, none⟩) n cap) n xs L) (k : Nat) (hk : k < n) (c' : Nat) (hc : n - k ≤ c') :
    Seg w E sz (.slice (some ⟨g, off + k * sz, none⟩) (n - k) c') (n - k) (xs.drop (k * sz)) L := by
  have hms : k * sz + (n - k) * sz = n * sz := by rw [← Nat.add_mul]; congr 1; omega
  refine ⟨by rw [List.length_drop, h.1]; omega, ?_⟩
  rcases h.2 with ⟨h0, _⟩ | ⟨g', off', cap', cur, e, rfl, hb, h1, h2, h3⟩
  · omega
  · simp only [Value.slice.injEq, Option.some.injEq, Addr.mk.injEq, and_true, true_and] at e
    obtain ⟨⟨rfl, rfl⟩, rfl⟩ := e
    refine Or.inr ⟨g, off + k * sz, c', cur, rfl, rfl, hb, hc, by omega, fun j hj => ?_⟩
    rw [List.getElem?_drop, ← h3 _ (by omega)]
    congr 1
    omega
theorem Seg.nil (w : World) (E : TypeId) (sz : Nat) : Seg w E sz (.slice none 0 0) 0 [] [] := ⟨by simp, Or.inl ⟨rfl, rfl, none, 0, rfl, Or.inl ⟨rfl, rfl⟩⟩⟩
theorem Seg.empty (w : World) (E : TypeId) (sz g off cap : Nat) : Seg w E sz (.slice (some ⟨g, off, none⟩) 0 cap) 0 [] [] := ⟨by simp, Or.inl ⟨rfl, rfl, _, cap, rfl, Or.inr ⟨g, off, rfl⟩⟩⟩
end Go.Proofs.Ytocfeeecgpklnaa
