/- A slice whose elements lie in C cells each: to be read (Lx), owned (Own), owned from some place on (Seg). No program in sight. -/
import Derived.Test.YtocfeeecgpklnaaK5
import Derived.Test.YtocfeeecgpklnaaI0
namespace Go.Proofs.Ytocfeeecgpklnaa
set_option linter.unusedVariables false
set_option linter.unusedSimpArgs false
set_option linter.unusedSectionVars false
open Go.RowKit

/-- How an element lies. -/
structure Lays {X : Type} (C : Nat) (f : X → List Value) : Prop where
  len : ∀ x, (f x).length = C
  one : ∀ x, ∀ u ∈ f x, u.oneCell' = true
  pos : 0 < C

abbrev flat {X : Type} (f : X → List Value) (l : List X) : List Value := l.flatMap f

section
variable {X : Type} {C : Nat} {f : X → List Value}
theorem flat_len (hf : Lays C f) (l : List X) : (flat f l).length = l.length * C := by
  induction l with
  | nil => simp [flat]
  | cons x l ih =>
    have := hf.len x
    simp only [flat, List.flatMap_cons, List.length_append] at ih ⊢
    rw [ih, this, List.length_cons, Nat.add_mul]; omega
theorem flat_one (hf : Lays C f) (l : List X) : ∀ u ∈ flat f l, u.oneCell' = true := by
  intro u hu
  obtain ⟨x, _, h⟩ := List.mem_flatMap.1 hu
  exact hf.one x u h
theorem flat_at (hf : Lays C f) : ∀ (l : List X) (k : Nat) (x : X), l[k]? = some x → ∀ j, j < C → (flat f l)[k * C + j]? = (f x)[j]? := by
  intro l
  induction l with
  | nil => intro k x h; simp at h
  | cons y l ih =>
    intro k x h j hj
    have hy := hf.len y
    have e : flat f (y :: l) = f y ++ flat f l := rfl
    rw [e]
    cases k with
    | zero =>
      simp at h; subst h
      rw [List.getElem?_append_left (by omega)]
      simp
    | succ k =>
      rw [List.getElem?_append_right (by rw [hy, Nat.succ_mul]; omega)]
      rw [← ih k x (by simpa using h) j hj]
      congr 1
      rw [hy, Nat.succ_mul]; omega
theorem flat_take (hf : Lays C f) (l : List X) (k : Nat) : flat f (l.take k) = (flat f l).take (k * C) := by
  induction l generalizing k with
  | nil => simp [flat]
  | cons y l ih =>
    have hy := hf.len y
    cases k with
    | zero => simp [flat]
    | succ k =>
      have h := ih k
      simp only [flat, List.take_succ_cons, List.flatMap_cons] at h ⊢
      have e1 : (f y).take ((k + 1) * C) = f y := List.take_of_length_le (by rw [hy, Nat.succ_mul]; omega)
      have e2 : (k + 1) * C - C = k * C := by rw [Nat.succ_mul]; omega
      rw [h, List.take_append, hy, e1, e2]
theorem flat_drop (hf : Lays C f) (l : List X) (k : Nat) : flat f (l.drop k) = (flat f l).drop (k * C) := by
  induction l generalizing k with
  | nil => simp [flat]
  | cons y l ih =>
    have hy := hf.len y
    cases k with
    | zero => simp [flat]
    | succ k =>
      have h := ih k
      simp only [flat, List.drop_succ_cons, List.flatMap_cons] at h ⊢
      have e1 : (f y).drop ((k + 1) * C) = [] := List.drop_of_length_le (by rw [hy, Nat.succ_mul]; omega)
      have e2 : (k + 1) * C - C = k * C := by rw [Nat.succ_mul]; omega
      rw [h, List.drop_append, hy, e1, e2, List.nil_append]

theorem flat_set (hf : Lays C f) (l : List X) (i : Nat) (x y : X) (j : Nat) (u : Value) (hx : l[i]? = some x) (hj : j < C) (hy : f y = (f x).set j u) : flat f (l.set i y) = (flat f l).set (i * C + j) u := by
  obtain ⟨hi, rfl⟩ := List.getElem?_eq_some_iff.1 hx
  have e1 : l.set i y = l.take i ++ y :: l.drop (i + 1) := by rw [List.set_eq_take_append_cons_drop, if_pos hi]
  have e2 : flat f l = flat f (l.take i) ++ (f l[i] ++ flat f (l.drop (i + 1))) := by
    have : l = l.take i ++ l[i] :: l.drop (i + 1) := by rw [← List.drop_eq_getElem_cons hi, List.take_append_drop]
    have h2 := congrArg (flat f) this
    exact h2.trans (by simp only [flat, List.flatMap_append, List.flatMap_cons])
  have hlen : (flat f (l.take i)).length = i * C := by rw [flat_len hf, List.length_take, Nat.min_eq_left (by omega)]
  have hl := hf.len l[i]
  rw [e1, e2]
  rw [List.set_append_right _ _ (by omega), hlen, Nat.add_sub_cancel_left, List.set_append_left _ _ (by omega), ← hy]
  simp only [flat, List.flatMap_append, List.flatMap_cons]

/-- The value is a slice that reads as l. -/
def Lx (C : Nat) (f : X → List Value) (w : World) (v : Value) (l : List X) : Prop := ∃ a cap, v = .slice a l.length cap ∧ IsSeq C f w a l ∧ l.length ≤ 9223372036854775807

theorem IsSeq.modx {w w' : World} {a : Option Addr} {xs : List X} {M : List Nat} (h : IsSeq C f w a xs) (hm : Mod M w w') (hd : ∀ b off, a = some ⟨b, off, none⟩ → b ∉ M) : IsSeq C f w' a xs := by
  rcases h with rfl | ⟨b, off, rfl, h⟩
  · exact Or.inl rfl
  · exact Or.inr ⟨b, off, rfl, fun i x hx j v hj => hm.cellSome (h i x hx j v hj) (hd b off rfl)⟩
theorem Lx.mod {w w' : World} {v : Value} {l : List X} (h : Lx C f w v l) (hm : Mod [] w w') : Lx C f w' v l := by
  obtain ⟨a, cap, rfl, h1, h2⟩ := h
  exact ⟨a, cap, rfl, h1.modx hm (by simp), h2⟩
theorem Lx.at {w : World} {a : Option Addr} {n cap : Nat} {l : List X} (h : Lx C f w (.slice a n cap) l) {i : Nat} {x : X} (hx : l[i]? = some x) :
    ∃ b off : Nat, a = some ⟨b, off, none⟩ ∧ ∀ j v, (f x)[j]? = some v → w.cell? ⟨b, off + i * C + j, none⟩ = some v := by
  obtain ⟨a', cap', hv, h1, h2⟩ := h
  simp only [Value.slice.injEq] at hv
  obtain ⟨rfl, rfl, rfl⟩ := hv
  exact h1.at (Mod.refl [] w) hx
theorem Lx.adr (hf : Lays C f) {w : World} {a : Option Addr} {n cap : Nat} {l : List X} (h : Lx C f w (.slice a n cap) l) (hn : 0 < n) : ∃ b off : Nat, a = some ⟨b, off, none⟩ := by
  have hl : l.length = n := by
    obtain ⟨a', cap', hv, _⟩ := h
    simp only [Value.slice.injEq] at hv
    exact hv.2.1.symm
  obtain ⟨x, hx⟩ : ∃ x, l[0]? = some x := ⟨_, List.getElem?_eq_getElem (by omega)⟩
  obtain ⟨b, off, h1, _⟩ := h.at hx
  exact ⟨b, off, h1⟩
theorem Lx.len {w : World} {a : Option Addr} {n cap : Nat} {l : List X} (h : Lx C f w (.slice a n cap) l) : l.length = n ∧ n ≤ 9223372036854775807 := by
  obtain ⟨a', cap', hv, _, h2⟩ := h
  simp only [Value.slice.injEq] at hv
  exact ⟨hv.2.1.symm, by omega⟩
theorem Lx.take {w : World} {a : Option Addr} {n cap m : Nat} {l : List X} (h : Lx C f w (.slice a n cap) l) (hm : m ≤ n) (c' : Nat) : Lx C f w (.slice a m c') (l.take m) := by
  obtain ⟨a', cap', hv, h1, h2⟩ := h
  simp only [Value.slice.injEq] at hv
  obtain ⟨rfl, rfl, rfl⟩ := hv
  have hl : (l.take m).length = m := by rw [List.length_take]; omega
  refine ⟨a, c', by rw [hl], ?_, by omega⟩
  rcases h1 with h0 | ⟨b', off', rfl, hc⟩
  · subst h0; exact Or.inl (by simp)
  · refine Or.inr ⟨b', off', rfl, fun i x hx j v hj => ?_⟩
    rw [List.getElem?_take] at hx
    split at hx
    · exact hc i x hx j v hj
    · cases hx
theorem Lx.drop {w : World} {b off n cap k : Nat} {l : List X} (h : Lx C f w (.slice (some ⟨b, off, none⟩) n cap) l) (hk : k ≤ n) (n' c' : Nat) (hn : n' = n - k) : Lx C f w (.slice (some ⟨b, off + k * C, none⟩) n' c') (l.drop k) := by
  obtain ⟨a', cap', hv, h1, h2⟩ := h
  simp only [Value.slice.injEq] at hv
  obtain ⟨rfl, rfl, rfl⟩ := hv
  subst hn
  refine ⟨_, _, by rw [List.length_drop], ?_, by rw [List.length_drop]; omega⟩
  rcases h1 with rfl | ⟨b', off', e, hc⟩
  · exact Or.inl (by simp)
  · simp only [Option.some.injEq, Addr.mk.injEq, and_true] at e
    obtain ⟨rfl, rfl⟩ := e
    refine Or.inr ⟨b, off + k * C, rfl, fun i x hx j v hj => ?_⟩
    rw [List.getElem?_drop] at hx
    have := hc (k + i) x hx j v hj
    rw [← this]
    congr 2
    rw [Nat.add_mul]; omega
theorem Lx.none {w : World} {P : List X} (a : Option Addr) (n' c' : Nat) (hP : P.length = 0) (hn : n' = 0) : Lx C f w (.slice a n' c') P := by
  obtain rfl := List.eq_nil_of_length_eq_zero hP
  subst hn
  exact ⟨a, c', rfl, Or.inl rfl, by simp⟩
theorem Own.lx (hf : Lays C f) {w : World} {E : TypeId} {v : Value} {l : List X} {L : List Nat} (h : Own w E C v l.length (flat f l) L) : Lx C f w v l := by
  obtain ⟨a, cap, rfl, h1, h2, h3⟩ := h.val
  refine ⟨a, cap, rfl, ?_, by omega⟩
  rcases Nat.eq_zero_or_pos l.length with h0 | h0
  · exact Or.inl (List.eq_nil_of_length_eq_zero h0)
  · obtain ⟨g, rfl, _, hc⟩ := h3 h0
    refine Or.inr ⟨g, 0, rfl, fun i x hx j v hj => ?_⟩
    have hjC : j < C := by rw [← hf.len x]; exact (List.getElem?_eq_some_iff.1 hj).1
    have hi := (List.getElem?_eq_some_iff.1 hx).1
    have e := flat_at hf _ i x hx j hjC
    have hlt : i * C + j < l.length * C := by
      calc i * C + j < i * C + C := by omega
        _ = (i + 1) * C := by rw [Nat.succ_mul]
        _ ≤ l.length * C := Nat.mul_le_mul_right _ hi
    rw [Nat.zero_add, hc _ hlt, e, hj]
theorem Lx.cellsOf (hf : Lays C f) {w : World} {b off n cap : Nat} {l : List X} (h : Lx C f w (.slice (some ⟨b, off, Option.none⟩) n cap) l) {i : Nat} (hi : i < n * C) : w.cell? ⟨b, off + i, Option.none⟩ = (flat f l)[i]? := by
  have hl := h.len.1
  have hp := hf.pos
  have hd : i / C < l.length := by rw [hl]; exact Nat.div_lt_of_lt_mul (by rw [Nat.mul_comm]; exact hi)
  have hx : l[i / C]? = some l[i / C] := List.getElem?_eq_getElem hd
  have hm := Nat.mod_lt i hp
  have e := flat_at hf l (i / C) _ hx (i % C) hm
  have e2 : i / C * C + i % C = i := by rw [Nat.mul_comm]; exact Nat.div_add_mod i C
  rw [e2] at e
  have hj : (f l[i / C])[i % C]? = some ((f l[i / C])[i % C]'(by rw [hf.len]; exact hm)) := List.getElem?_eq_getElem _
  obtain ⟨b', off', e3, hc⟩ := h.at hx
  simp only [Option.some.injEq, Addr.mk.injEq, and_true] at e3
  obtain ⟨rfl, rfl⟩ := e3
  have h := hc _ _ hj
  rw [e, hj, ← h]
  congr 2
  omega
theorem Lx.rdl (hf : Lays C f) {w : World} {v : Value} {l : List X} (h : Lx C f w v l) (hl : 0 < l.length) : Rdl w C v l.length (flat f l) := by
  have H := h
  obtain ⟨a, cap, rfl, h1, h2⟩ := h
  obtain ⟨b, off, rfl⟩ := Lx.adr hf H hl
  exact ⟨flat_len hf l, Or.inr ⟨b, off, cap, rfl, fun j hj => H.cellsOf hf hj⟩⟩
theorem Lx.src (hf : Lays C f) {P : Program} {w : World} {v : Value} {l : List X} (h : Lx C f w v l) : Src P w v C l.length (flat f l) := by
  have H := h
  obtain ⟨a, cap, rfl, h1, h2⟩ := h
  rcases Nat.eq_zero_or_pos l.length with h0 | h0
  · have := List.eq_nil_of_length_eq_zero h0
    subst this
    exact Src.none a C cap
  · obtain ⟨b, off, rfl⟩ := Lx.adr hf H h0
    exact Src.slice (fun i hi => H.cellsOf hf (by rw [flat_len hf] at hi; exact hi)) (flat_len hf l)

/-- A cell of an owned slice is set. -/
theorem Own.set {w : World} {E : TypeId} {sz g n cap : Nat} {xs : List Value} {L : List Nat} (h : Own w E sz (.slice (some ⟨g, 0, Option.none⟩) n cap) n xs L) (k : Nat) (hk : k < n * sz) (u : Value) :
    Own (w.setCell ⟨g, k, Option.none⟩ u) E sz (.slice (some ⟨g, 0, Option.none⟩) n cap) n (xs.set k u) L := by
  refine ⟨by rw [List.length_set]; exact h.1, ?_⟩
  rcases h.2 with ⟨h0, _⟩ | ⟨g', cap', cur, e, rfl, hb, h1, h2, h3, h4⟩
  · cases h0
  · simp only [Value.slice.injEq, Option.some.injEq, Addr.mk.injEq, and_true, true_and] at e
    obtain ⟨rfl, rfl⟩ := e
    refine Or.inr ⟨g, cap, cur.setIfInBounds k u, rfl, rfl, hb.set k u, h1, h2, by simpa using h3, ?_⟩
    rw [← h4, Array.toList_setIfInBounds, List.take_set]
theorem Own.blk {w : World} {E : TypeId} {sz g n cap : Nat} {xs : List Value} {L : List Nat} (h : Own w E sz (.slice (some ⟨g, 0, Option.none⟩) n cap) n xs L) : L = [g] ∧ (∃ cur, Blk w g cur E) ∧ n ≤ cap ∧ cap ≤ 9223372036854775807 := by
  rcases h.2 with ⟨h0, _⟩ | ⟨g', cap', cur, e, rfl, hb, h1, h2, _⟩
  · cases h0
  · simp only [Value.slice.injEq, Option.some.injEq, Addr.mk.injEq, and_true, true_and] at e
    obtain ⟨rfl, rfl⟩ := e
    exact ⟨rfl, ⟨cur, hb⟩, h1, by simpa [maxLen] using h2⟩
end
end Go.Proofs.Ytocfeeecgpklnaa
