/- Plain: what becomes of the operations. -/
import Derived.Test.YtocfeeecgpklnaaTXN
namespace Go.Proofs.Ytocfeeecgpklnaa
set_option linter.unusedVariables false
set_option linter.unusedSimpArgs false
set_option linter.unusedSectionVars false
open Go.RowKit Go.Shelf

instance (a b : ByteArray) : Decidable (SL a b) := inferInstanceAs (Decidable (a.data.toList < b.data.toList))
def ltsO (l : List Rc) (k : ByteArray) : List Rc := l.filter fun x => decide (SL x.key k)
def gtsO (l : List Rc) (k : ByteArray) : List Rc := l.filter fun x => decide (SL k x.key)
/-- The operations with one more. -/
def putO (l : List Rc) (r : Rc) : List Rc := ltsO l r.key ++ r :: gtsO l r.key

theorem lts_app (l m : List Rc) (k : ByteArray) : ltsO (l ++ m) k = ltsO l k ++ ltsO m k := by simp [ltsO]
theorem gts_app (l m : List Rc) (k : ByteArray) : gtsO (l ++ m) k = gtsO l k ++ gtsO m k := by simp [gtsO]
theorem lts_all {l : List Rc} {k : ByteArray} (h : ∀ x ∈ l, SL x.key k) : ltsO l k = l := by
  unfold ltsO; rw [List.filter_eq_self]; intro x hx; simpa using h x hx
theorem lts_none {l : List Rc} {k : ByteArray} (h : ∀ x ∈ l, ¬ SL x.key k) : ltsO l k = [] := by
  unfold ltsO; rw [List.filter_eq_nil_iff]; intro x hx; simpa using h x hx
theorem gts_all {l : List Rc} {k : ByteArray} (h : ∀ x ∈ l, SL k x.key) : gtsO l k = l := by
  unfold gtsO; rw [List.filter_eq_self]; intro x hx; simpa using h x hx
theorem gts_none {l : List Rc} {k : ByteArray} (h : ∀ x ∈ l, ¬ SL k x.key) : gtsO l k = [] := by
  unfold gtsO; rw [List.filter_eq_nil_iff]; intro x hx; simpa using h x hx

theorem put_kr {l : List Rc} (h : Kr l) (r : Rc) : Kr (putO l r) := by
  unfold putO Kr
  rw [List.pairwise_append]
  refine ⟨List.Pairwise.filter _ h, ?_, ?_⟩
  · rw [List.pairwise_cons]
    refine ⟨?_, List.Pairwise.filter _ h⟩
    intro x hx
    simpa [gtsO] using (List.mem_filter.1 hx).2
  · intro x hx y hy
    have h1 : SL x.key r.key := by simpa [ltsO] using (List.mem_filter.1 hx).2
    rcases List.mem_cons.1 hy with rfl | hy
    · exact h1
    · exact SL_trans h1 (by simpa [gtsO] using (List.mem_filter.1 hy).2)

theorem put_len {l : List Rc} (r : Rc) : (putO l r).length ≤ l.length + 1 := by
  have h : ∀ m : List Rc, (ltsO m r.key).length + (gtsO m r.key).length ≤ m.length := by
    intro m
    induction m with
    | nil => simp [ltsO, gtsO]
    | cons x m ih =>
      rw [show x :: m = [x] ++ m from rfl, lts_app, gts_app, List.length_append, List.length_append, List.length_append]
      have : (ltsO [x] r.key).length + (gtsO [x] r.key).length ≤ 1 := by
        rcases SL_tri x.key r.key with h | h | h
        · rw [lts_all (by simpa using h), gts_none (by simpa using SL_asymm h)]; simp
        · rw [lts_none (by simp [h, SL_irrefl]), gts_none (by simp [h, SL_irrefl])]; simp
        · rw [gts_all (by simpa using h), lts_none (by simpa using SL_asymm h)]; simp
      simp only [List.length_cons, List.length_nil] at this ⊢
      omega
  have := h l
  unfold putO; simp; omega

/-- It is where the key's place is: set. -/
theorem put_set {l : List Rc} (hs : Kr l) {r : Rc} {i : Nat} (hi : IsKb l r.key i) {x : Rc} (hx : l[i]? = some x) (he : x.key = r.key) : l.set i r = putO l r := by
  obtain ⟨hil, rfl⟩ := List.getElem?_eq_some_iff.1 hx
  have e0 : l = l.take i ++ l[i] :: l.drop (i + 1) := by rw [← List.drop_eq_getElem_cons hil, List.take_append_drop]
  have e1 : l.set i r = l.take i ++ r :: l.drop (i + 1) := by rw [List.set_eq_take_append_cons_drop, if_pos hil]
  have hA : ∀ y ∈ l.take i, SL y.key r.key := by
    intro y hy
    obtain ⟨j, hj, rfl⟩ := List.getElem_of_mem hy
    rw [List.getElem_take]
    exact hi.2.1 j _ (by rw [List.length_take] at hj; omega) (List.getElem?_eq_getElem (by rw [List.length_take] at hj; omega))
  have hZ : ∀ y ∈ l.drop (i + 1), SL r.key y.key := by
    intro y hy
    obtain ⟨j, hj, rfl⟩ := List.getElem_of_mem hy
    rw [List.getElem_drop, ← he]
    exact List.pairwise_iff_getElem.1 hs i (i + 1 + j) hil (by rw [List.length_drop] at hj; omega) (by omega)
  rw [e1]
  unfold putO
  rw [show ltsO l r.key = l.take i from ?_, show gtsO l r.key = l.drop (i + 1) from ?_]
  · conv => lhs; rw [e0]
    rw [show l.take i ++ l[i] :: l.drop (i + 1) = l.take i ++ ([l[i]] ++ l.drop (i + 1)) from rfl, gts_app, gts_app, gts_none (fun y hy => SL_asymm (hA y hy)), gts_none (l := [l[i]]) (by simp [he, SL_irrefl]), gts_all hZ]; rfl
  · conv => lhs; rw [e0]
    rw [show l.take i ++ l[i] :: l.drop (i + 1) = l.take i ++ ([l[i]] ++ l.drop (i + 1)) from rfl, lts_app, lts_app, lts_all hA, lts_none (l := [l[i]]) (by simp [he, SL_irrefl]), lts_none (fun y hy => SL_asymm (hZ y hy))]; simp

/-- It is not there: put in. -/
theorem put_ins {l : List Rc} (hs : Kr l) {r : Rc} {i : Nat} (hi : IsKb l r.key i) (hn : hasB l r.key = false) : l.take i ++ r :: l.drop i = putO l r := by
  have hne : ∀ y ∈ l, y.key ≠ r.key := by
    intro y hy e
    rw [(hasB_iff l r.key).2 ⟨y, hy, e⟩] at hn; cases hn
  have hA : ∀ y ∈ l.take i, SL y.key r.key := by
    intro y hy
    obtain ⟨j, hj, rfl⟩ := List.getElem_of_mem hy
    rw [List.getElem_take]
    exact hi.2.1 j _ (by rw [List.length_take] at hj; omega) (List.getElem?_eq_getElem (by rw [List.length_take] at hj; omega))
  have hZ : ∀ y ∈ l.drop i, SL r.key y.key := by
    intro y hy
    have hy' := List.mem_of_mem_drop hy
    obtain ⟨j, hj, rfl⟩ := List.getElem_of_mem hy
    rw [List.getElem_drop] at hy' ⊢
    have h := hi.2.2 (i + j) _ (by omega) (List.getElem?_eq_getElem (by rw [List.length_drop] at hj; omega))
    rcases SL_tri (l[i + j]'(by rw [List.length_drop] at hj; omega)).key r.key with h1 | h1 | h1
    · exact absurd h1 h
    · exact absurd h1 (hne _ hy')
    · exact h1
  unfold putO
  rw [show ltsO l r.key = l.take i from ?_, show gtsO l r.key = l.drop i from ?_]
  · conv => lhs; rw [← List.take_append_drop i l]
    rw [gts_app, gts_none (fun y hy => SL_asymm (hA y hy)), gts_all hZ]; rfl
  · conv => lhs; rw [← List.take_append_drop i l]
    rw [lts_app, lts_all hA, lts_none (fun y hy => SL_asymm (hZ y hy))]; simp

/-- What the document's loop has made of the first ones. -/
def BdO (l : List Rc) (r : Rc) (i : Nat) (done : Bool) (acc : List Rc) : Prop :=
  (done = false → acc = ltsO (l.take i) r.key ∧ ∀ x ∈ l.take i, ¬ SL r.key x.key) ∧ (done = true → acc = putO (l.take i) r ∧ ∃ x ∈ l.take i, SL r.key x.key)
theorem bd_start (l : List Rc) (r : Rc) : BdO l r 0 false [] := ⟨fun _ => by simp [ltsO], fun h => by cases h⟩
theorem bd_len {l : List Rc} {r : Rc} {i : Nat} {d : Bool} {acc : List Rc} (h : BdO l r i d acc) : acc.length ≤ l.length + 1 := by
  cases d
  · rw [(h.1 rfl).1]
    have h1 : (ltsO (l.take i) r.key).length ≤ (l.take i).length := List.length_filter_le _ _
    rw [List.length_take] at h1; omega
  · rw [(h.2 rfl).1]
    have h1 := put_len (l := l.take i) r
    rw [List.length_take] at h1; omega
theorem take_one {l : List Rc} {i : Nat} {x : Rc} (hx : l[i]? = some x) : l.take (i + 1) = l.take i ++ [x] := by
  rw [List.take_add_one, hx]; rfl
theorem bd_same {l : List Rc} {r : Rc} {i : Nat} {d : Bool} {acc : List Rc} (h : BdO l r i d acc) {x : Rc} (hx : l[i]? = some x) (he : x.key = r.key) : BdO l r (i + 1) d acc := by
  have e1 : ltsO [x] r.key = [] := lts_none (by simp [he, SL_irrefl])
  have e2 : gtsO [x] r.key = [] := gts_none (by simp [he, SL_irrefl])
  refine ⟨fun hd => ?_, fun hd => ?_⟩
  · obtain ⟨h1, h2⟩ := h.1 hd
    rw [take_one hx, lts_app, e1, List.append_nil]
    refine ⟨h1, fun y hy => ?_⟩
    rcases List.mem_append.1 hy with hy | hy
    · exact h2 y hy
    · simp at hy; subst hy; rw [he]; exact SL_irrefl _
  · obtain ⟨h1, y, hy, h2⟩ := h.2 hd
    rw [take_one hx]
    refine ⟨?_, y, by simp [hy], h2⟩
    rw [h1]; unfold putO; rw [lts_app, gts_app, e1, e2, List.append_nil, List.append_nil]
theorem bd_less {l : List Rc} {r : Rc} {i : Nat} {acc : List Rc} (h : BdO l r i false acc) {x : Rc} (hx : l[i]? = some x) (he : SL x.key r.key) : BdO l r (i + 1) false (acc ++ [x]) := by
  have e1 : ltsO [x] r.key = [x] := lts_all (by simpa using he)
  refine ⟨fun hd => ?_, fun hd => by cases hd⟩
  obtain ⟨h1, h2⟩ := h.1 rfl
  rw [take_one hx, lts_app, e1, h1]
  refine ⟨rfl, fun y hy => ?_⟩
  rcases List.mem_append.1 hy with hy | hy
  · exact h2 y hy
  · simp at hy; subst hy; exact SL_asymm he
theorem bd_more {l : List Rc} {r : Rc} {i : Nat} {acc : List Rc} (h : BdO l r i false acc) {x : Rc} (hx : l[i]? = some x) (he : SL r.key x.key) : BdO l r (i + 1) true (acc ++ [r] ++ [x]) := by
  refine ⟨fun hd => by (cases hd), fun _ => ?_⟩
  obtain ⟨h1, h2⟩ := h.1 rfl
  rw [take_one hx]
  refine ⟨?_, x, by simp, he⟩
  rw [h1]; unfold putO
  rw [lts_app, gts_app, lts_none (l := [x]) (by simpa using SL_asymm he), gts_all (l := [x]) (by simpa using he), gts_none h2]
  simp
theorem bd_past {l : List Rc} {r : Rc} {i : Nat} {acc : List Rc} (hs : Kr l) (h : BdO l r i true acc) {x : Rc} (hx : l[i]? = some x) : SL r.key x.key ∧ BdO l r (i + 1) true (acc ++ [x]) := by
  obtain ⟨h1, y, hy, h2⟩ := h.2 rfl
  obtain ⟨j, hj, rfl⟩ := List.getElem_of_mem hy
  obtain ⟨hil, rfl⟩ := List.getElem?_eq_some_iff.1 hx
  rw [List.length_take] at hj
  rw [List.getElem_take] at h2
  have he : SL r.key l[i].key := SL_trans h2 (List.pairwise_iff_getElem.1 hs j i (by omega) hil (by omega))
  refine ⟨he, fun hd => by (cases hd), fun _ => ?_⟩
  rw [take_one hx]
  refine ⟨?_, l[i], List.mem_append.2 (Or.inr (by simp)), he⟩
  rw [h1]; unfold putO
  rw [lts_app, gts_app, lts_none (l := [l[i]]) (by simpa using SL_asymm he), gts_all (l := [l[i]]) (by simpa using he)]
  simp
theorem bd_end {l : List Rc} {r : Rc} {i : Nat} {d : Bool} {acc : List Rc} (h : BdO l r i d acc) (hi : l.length ≤ i) : (if d then acc else acc ++ [r]) = putO l r := by
  have ht : l.take i = l := List.take_of_length_le hi
  cases d
  · obtain ⟨h1, h2⟩ := h.1 rfl
    rw [ht] at h1 h2
    unfold putO; rw [gts_none h2, h1]; rfl
  · rw [(h.2 rfl).1, ht]; rfl

/-- What may be written. -/
def mayE (r : Rc) : Int := if r.key.size ≤ 16 ∧ r.vl.size ≤ 24 then (if nonS r.key = true ∧ (r.dl = false ∨ nonS r.vl = false) then 0 else 2) else 3
def wroteE (t : Tx) (r : Rc) : Int := if overB t then 13 else if mayE r ≠ 0 then mayE r else roomE t.ops r.key
def wroteT (t : Tx) (r : Rc) : Tx := if wroteE t r = 0 then { t with ops := putO t.ops { r with ln := 0 } } else t
end Go.Proofs.Ytocfeeecgpklnaa
