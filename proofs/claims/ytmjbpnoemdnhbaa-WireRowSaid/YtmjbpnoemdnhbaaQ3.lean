/- A row of items, and where it is cut. No program in sight. -/
import Derived.Test.YtmjbpnoemdnhbaaQ2
namespace Go.Proofs.Ytmjbpnoemdnhbaa
set_option linter.unusedVariables false
set_option linter.unusedSimpArgs false
open Go.RowKit

def itL (x : Item) : List UInt8 := (itemB x).data.toList
/-- The bytes of some items. -/
def rowL (xs : List Item) : List UInt8 := xs.flatMap itL
/-- How many bytes the first j items have. -/
def eN (xs : List Item) (j : Nat) : Nat := (rowL (xs.take j)).length
def endsV (xs : List Item) (k : Nat) : List Value := (List.range k).map fun j => Value.int .i64 (eN xs (j + 1))

theorem itL_pos (x : Item) : 0 < (itL x).length := by
  unfold itL itemB
  split
  · have := Wire.digits_len_pos (cut x.s 200).size
    simp [textB]
    omega
  · have := Wire.digits_len_pos x.n
    simp
    omega
theorem rowL_app (a b : List Item) : rowL (a ++ b) = rowL a ++ rowL b := List.flatMap_append
theorem rowL_cons (x : Item) (b : List Item) : rowL (x :: b) = itL x ++ rowL b := by simp only [rowL, List.flatMap_cons]
theorem rowL_drop {xs : List Item} {k : Nat} {x : Item} (h : xs[k]? = some x) : rowL (xs.drop k) = itL x ++ rowL (xs.drop (k + 1)) := by
  obtain ⟨hk, rfl⟩ := List.getElem?_eq_some_iff.1 h
  rw [← List.getElem_cons_drop hk, rowL_cons]
theorem rowL_split {xs : List Item} {k : Nat} {x : Item} (h : xs[k]? = some x) : rowL xs = rowL (xs.take k) ++ (itL x ++ rowL (xs.drop (k + 1))) := by
  rw [← rowL_drop h, ← rowL_app, List.take_append_drop]
theorem rowL_take {xs : List Item} {k : Nat} {x : Item} (h : xs[k]? = some x) : rowL (xs.take (k + 1)) = rowL (xs.take k) ++ itL x := by
  have e : xs.take (k + 1) = xs.take k ++ [x] := by rw [List.take_add_one, h]; rfl
  rw [e, rowL_app, rowL_cons]
  simp [rowL]
theorem eN_step {xs : List Item} {k : Nat} {x : Item} (h : xs[k]? = some x) : eN xs (k + 1) = eN xs k + (itL x).length := by
  unfold eN; rw [rowL_take h]; simp
theorem eN_le (xs : List Item) : ∀ j, eN xs j ≤ 210 * j := by
  intro j
  induction j with
  | zero => simp [eN, rowL]
  | succ j ih =>
    rcases Nat.lt_or_ge j xs.length with hj | hj
    · rw [eN_step (List.getElem?_eq_getElem hj)]
      have := itemB_size xs[j]
      rw [ba_size] at this
      unfold itL
      omega
    · have : xs.take (j + 1) = xs.take j := by rw [List.take_of_length_le hj, List.take_of_length_le (by omega)]
      unfold eN at ih ⊢
      rw [this]; omega
theorem endsV_len (xs : List Item) (k : Nat) : (endsV xs k).length = k := by simp [endsV]
theorem endsV_step (xs : List Item) (k : Nat) : endsV xs (k + 1) = endsV xs k ++ [Value.int .i64 (eN xs (k + 1))] := by simp [endsV, List.range_succ]
theorem endsV_at (xs : List Item) {k m : Nat} (h : k < m) : (endsV xs m)[k]? = some (Value.int .i64 (eN xs (k + 1))) := by simp [endsV, h]
theorem endsV_one (xs : List Item) (k : Nat) : ∀ u ∈ endsV xs k, u.oneCell' = true := by
  intro u hu
  simp [endsV] at hu
  obtain ⟨j, _, rfl⟩ := hu
  rfl

/-- A reader that holds item x and what is behind it: x is read. -/
theorem ask_step {x : Item} {r : ByteArray} {l : List UInt8} (h : r.data.toList = itL x ++ l) : askOf x (some r) = (true, some ⟨l.toArray⟩) := by
  have e : r = itemB x ++ ⟨l.toArray⟩ := by
    apply ba_ext
    rw [h, ba_list]; rfl
  rw [e, ask_back]

theorem part_yes {xs : List Item} {k at' : Nat} {x : Item} (h : xs[k]? = some x) (hle : eN xs (k + 1) ≤ at') : ((rowL xs).take at').drop (eN xs k) = itL x ++ ((rowL xs).take at').drop (eN xs (k + 1)) := by
  have hs := eN_step h
  have hk : (rowL (xs.take k)).length = eN xs k := rfl
  have d1 : (rowL (xs.take k)).drop (eN xs k) = [] := List.drop_eq_nil_of_le (by omega)
  have d2 : (rowL (xs.take k)).drop (eN xs (k + 1)) = [] := List.drop_eq_nil_of_le (by omega)
  rw [rowL_split h, List.take_append, hk, List.take_append, List.take_of_length_le (l := rowL (xs.take k)) (by omega), List.take_of_length_le (l := itL x) (by omega), List.drop_append, List.drop_append (l₁ := rowL (xs.take k)) (i := eN xs (k + 1)), d1, d2, hk, List.drop_append (l₁ := itL x) (i := eN xs (k + 1) - eN xs k)]
  rw [show eN xs (k + 1) - eN xs k = (itL x).length by omega, show eN xs k - eN xs k = 0 by omega]
  simp
theorem part_no {xs : List Item} {k at' : Nat} {x : Item} (h : xs[k]? = some x) (h1 : eN xs k ≤ at') (h2 : at' < eN xs (k + 1)) : ((rowL xs).take at').drop (eN xs k) = (itL x).take (at' - eN xs k) := by
  have hs := eN_step h
  have hk : (rowL (xs.take k)).length = eN xs k := rfl
  have d1 : (rowL (xs.take k)).drop (eN xs k) = [] := List.drop_eq_nil_of_le (by omega)
  rw [rowL_split h, List.take_append, hk, List.take_append, List.take_of_length_le (l := rowL (xs.take k)) (by omega), List.drop_append, hk, d1]
  rw [show eN xs k - eN xs k = 0 by omega, show at' - eN xs k - (itL x).length = 0 by omega]
  simp
theorem part_len {xs : List Item} {k at' : Nat} (hle : eN xs k ≤ at') (hat : at' ≤ (rowL xs).length) : (((rowL xs).take at').drop (eN xs k)).length = at' - eN xs k := by
  rw [List.length_drop, List.length_take]; omega

end Go.Proofs.Ytmjbpnoemdnhbaa
