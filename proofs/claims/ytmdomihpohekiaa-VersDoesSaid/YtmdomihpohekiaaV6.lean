/- IndexFunc, DeleteFunc. -/
import Derived.Test.YtmdomihpohekiaaV5
namespace Go.Proofs.Ytmdomihpohekiaa
set_option linter.unusedVariables false
set_option linter.unusedSimpArgs false
set_option linter.unusedSectionVars false
open Go.RowKit

/-- A row of versions in block g, with room for cap. -/
def RowAt (w : World) (g cap : Nat) (ls : List Vr) : Prop := ∃ cur, Blk w g cur 25 ∧ cap * 5 ≤ cur.size ∧ cur.toList.take (ls.length * 5) = vsC ls

theorem RowAt.mod {w w' : World} {g cap : Nat} {ls : List Vr} {M : List Nat} (h : RowAt w g cap ls) (hm : Mod M w w') (hg : g ∉ M) : RowAt w' g cap ls := by
  obtain ⟨cur, h1, h2, h3⟩ := h
  exact ⟨cur, hm.blk h1 hg, h2, h3⟩
theorem RowAt.lt {w : World} {g cap : Nat} {ls : List Vr} (h : RowAt w g cap ls) : g < w.heap.size := by
  obtain ⟨cur, h1, _⟩ := h
  exact h1.lt
theorem RowAt.cell {w : World} {g cap : Nat} {ls : List Vr} (h : RowAt w g cap ls) {i : Nat} {x : Vr} (hx : ls[i]? = some x) (j : Nat) (hj : j < 5) : w.cell? ⟨g, i * 5 + j, none⟩ = (vrC x)[j]? := by
  obtain ⟨cur, h1, h2, h3⟩ := h
  have hi := (List.getElem?_eq_some_iff.1 hx).1
  rw [h1.cell, ← vsC_at ls i x hx j hj, ← h3, List.getElem?_take, if_pos (by omega)]
  simp
theorem RowAt.free {w : World} {g cap : Nat} {ls : List Vr} (h : RowAt w g cap ls) (i : Nat) : w.frozen? ⟨g, i, none⟩ = false := by
  obtain ⟨cur, h1, _⟩ := h
  exact h1.free i
theorem RowAt.five {w : World} {g cap : Nat} {ls : List Vr} (h : RowAt w g cap ls) {i : Nat} {x : Vr} (hx : ls[i]? = some x) :
    w.cell? ⟨g, i * 5, none⟩ = some (.int .u64 x.ts) ∧ w.cell? ⟨g, i * 5 + 1, none⟩ = some (.int .u64 x.ln) ∧ w.cell? ⟨g, i * 5 + 2, none⟩ = some (.bool x.dl) ∧ w.cell? ⟨g, i * 5 + 3, none⟩ = some (.string x.vl) ∧ w.cell? ⟨g, i * 5 + 4, none⟩ = some (.bool x.ak) :=
  ⟨h.cell hx 0 (by omega), h.cell hx 1 (by omega), h.cell hx 2 (by omega), h.cell hx 3 (by omega), h.cell hx 4 (by omega)⟩
theorem RowAt.free5 {w : World} {g cap : Nat} {ls : List Vr} (h : RowAt w g cap ls) (i : Nat) :
    w.frozen? ⟨g, i * 5, none⟩ = false ∧ w.frozen? ⟨g, i * 5 + 1, none⟩ = false ∧ w.frozen? ⟨g, i * 5 + 2, none⟩ = false ∧ w.frozen? ⟨g, i * 5 + 3, none⟩ = false ∧ w.frozen? ⟨g, i * 5 + 4, none⟩ = false :=
  ⟨h.free _, h.free _, h.free _, h.free _, h.free _⟩

theorem vsC_set (ls : List Vr) (i : Nat) (x : Vr) (hi : i < ls.length) : vsC (ls.set i x) = (((((vsC ls).set (i * 5) (.int .u64 x.ts)).set (i * 5 + 1) (.int .u64 x.ln)).set (i * 5 + 2) (.bool x.dl)).set (i * 5 + 3) (.string x.vl)).set (i * 5 + 4) (.bool x.ak) := by
  induction ls generalizing i with
  | nil => simp at hi
  | cons y l ih =>
    cases i with
    | zero => simp [vsC, vrC]
    | succ i =>
      have e : ∀ z : Vr, ∀ m : List Vr, vsC (z :: m) = [.int .u64 z.ts, .int .u64 z.ln, .bool z.dl, .string z.vl, .bool z.ak] ++ vsC m := fun _ _ => rfl
      have h := ih i (by simpa using hi)
      rw [List.set_cons_succ, e, e, h]
      have e2 : (i + 1) * 5 = i * 5 + 5 := by omega
      rw [e2]
      rfl

theorem RowAt.set {w : World} {g cap : Nat} {ls : List Vr} (h : RowAt w g cap ls) (i : Nat) (x : Vr) (hi : i < ls.length) :
    RowAt (((((w.setCell ⟨g, i * 5, none⟩ (.int .u64 x.ts)).setCell ⟨g, i * 5 + 1, none⟩ (.int .u64 x.ln)).setCell ⟨g, i * 5 + 2, none⟩ (.bool x.dl)).setCell ⟨g, i * 5 + 3, none⟩ (.string x.vl)).setCell ⟨g, i * 5 + 4, none⟩ (.bool x.ak)) g cap (ls.set i x) := by
  obtain ⟨cur, h1, h2, h3⟩ := h
  refine ⟨_, ((((h1.set (i * 5) _).set (i * 5 + 1) _).set (i * 5 + 2) _).set (i * 5 + 3) _).set (i * 5 + 4) _, by simpa using h2, ?_⟩
  rw [vsC_set ls i x hi, ← h3]
  simp only [Array.toList_setIfInBounds, List.length_set, List.take_set]

theorem RowAt.own {w : World} {g cap n : Nat} {ls : List Vr} (h : RowAt w g cap ls) (hn : n ≤ ls.length) (hc : ls.length ≤ cap) (hm : cap ≤ 9223372036854775807) : Own w 25 5 (.slice (some ⟨g, 0, none⟩) n cap) n (vsC (ls.take n)) [g] := by
  obtain ⟨cur, h1, h2, h3⟩ := h
  refine ⟨by rw [vsC_len, List.length_take]; omega, Or.inr ⟨g, cap, cur, rfl, rfl, h1, by omega, by simpa [maxLen] using hm, h2, ?_⟩⟩
  have e : vsC ls = vsC (ls.take n) ++ vsC (ls.drop n) := by rw [← vsC_append, List.take_append_drop]
  have e2 : cur.toList.take (n * 5) = (cur.toList.take (ls.length * 5)).take (n * 5) := by rw [List.take_take]; congr 1; omega
  rw [e2, h3, e, List.take_append_of_le_length (by rw [vsC_len, List.length_take]; omega), List.take_of_length_le (by rw [vsC_len, List.length_take]; omega)]

theorem Own.row {w : World} {g n cap : Nat} {ls : List Vr} {L : List Nat} (h : Own w 25 5 (.slice (some ⟨g, 0, none⟩) n cap) ls.length (vsC ls) L) : RowAt w g cap ls ∧ L = [g] ∧ n = ls.length ∧ n ≤ cap ∧ cap ≤ 9223372036854775807 := by
  rcases h.2 with ⟨hv, _⟩ | ⟨g', cap', cur, hv, rfl, hb, h1, h2, h3, h4⟩
  · cases hv
  · simp only [Value.slice.injEq, Option.some.injEq, Addr.mk.injEq, and_true] at hv
    obtain ⟨rfl, rfl, rfl⟩ := hv
    exact ⟨⟨cur, hb, h3, h4⟩, rfl, rfl, h1, by simpa [maxLen] using h2⟩

/-- The first place at which something is so, as IndexFunc says it. -/
def idxB (p : Vr → Bool) (l : List Vr) : Int := match l.findIdx? p with | some i => (i : Int) | none => -1
theorem idxB_yes (p : Vr → Bool) (l : List Vr) (k : Nat) (x : Vr) (hx : l[k]? = some x) (hp : p x = true) (h : ∀ j y, j < k → l[j]? = some y → p y = false) : idxB p l = k := by
  have hk := (List.getElem?_eq_some_iff.1 hx).1
  have : l.findIdx? p = some k := by
    rw [List.findIdx?_eq_some_iff_getElem]
    obtain ⟨_, rfl⟩ := List.getElem?_eq_some_iff.1 hx
    refine ⟨hk, hp, fun j hj => ?_⟩
    have := h j l[j] hj (List.getElem?_eq_getElem (by omega))
    simp [this]
  simp [idxB, this]
theorem idxB_no (p : Vr → Bool) (l : List Vr) (h : ∀ j y, j < l.length → l[j]? = some y → p y = false) : idxB p l = -1 := by
  have : l.findIdx? p = none := by
    rw [List.findIdx?_eq_none_iff]
    intro x hx
    obtain ⟨j, hj, rfl⟩ := List.getElem_of_mem hx
    exact h j _ hj (List.getElem?_eq_getElem hj)
  simp [idxB, this]

set_option maxRecDepth 100000 in
set_option maxHeartbeats 1000000 in
theorem index_c (w : World) (v : Value) (l : List Vr) (h : Lv w v l) (k : Nat) (caps : Array Value) (p : Vr → Bool) (hp : Asks w k caps p) :
    Calls Try.prog 48 #[v, .func (.func k) #[] caps] w fun e w' => e = .returned (.int .i64 (idxB p l)) ∧ Mod [] w w' := by
  have H := hid h
  have HP := hid hp
  obtain ⟨a, cap, rfl, _, hlen⟩ := h
  have enter := hp.1
  clear hp
  go_enter Try.func48, Try.ntmps48
  go_wp2
  go_loopg [8] l.length (fun g i wr => ∃ j : Nat, i = .int .i64 j ∧ j + g = l.length ∧ Hid (∀ j' y, j' < j → l[j']? = some y → p y = false) ∧ Hid (Mod [] w wr))
  · exact ⟨0, rfl, by omega, hid (by intro j' y h; omega), Mod.refl _ _⟩
  · obtain ⟨j, rfl, hj, hA, hM⟩ := hrel
    by_cases hlt : j < l.length
    · obtain ⟨x, hx⟩ : ∃ x, l[j]? = some x := ⟨_, List.getElem?_eq_getElem hlt⟩
      obtain ⟨b, off, rfl, c0, c1, c2, c3, c4⟩ := (H.out.mod hM.out).at hx
      have Hx := hid hx
      clear hx
      go_wp2_with fail
      refine (HP.out.2 _ hM.out x).mono ?_
      rintro e w2 ⟨rfl, hm⟩
      have hM2 := hid (hM.out.tr hm)
      clear hm
      cases hpx : p x
      · have Hpx := hid hpx
        clear hpx
        go_wp2
        go_roundg (gk - 1)
        case measure => omega
        case rel => exact ⟨j + 1, by go_num, by omega, hid (by
          intro j' y h1 h2
          rcases (by omega : j' < j ∨ j' = j) with h | rfl
          · exact hA.out j' y h h2
          · rw [Hx.out] at h2; cases h2; exact Hpx.out), hM2⟩
      · have Hpx := hid hpx
        clear hpx
        go_wp2
        go_ret
        exact ⟨ret_int (idxB_yes p l j x Hx.out Hpx.out hA.out).symm, hM2.out⟩
    · obtain rfl : j = l.length := by omega
      go_wp2
      go_ret
      exact ⟨ret_int (idxB_no p l hA.out).symm, hM.out⟩

end Go.Proofs.Ytmdomihpohekiaa
