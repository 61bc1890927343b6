/- Plain: a fence's leaves as bytes, and back. No walk. -/
import Derived.Test.YthofkkmnngmafaaT3B
import Derived.Test.YthofkkmnngmafaaR3
import Derived.Test.YthofkkmnngmafaaF4
namespace Go.Proofs.Ythofkkmnngmafaa
set_option linter.unusedVariables false
set_option linter.unusedSimpArgs false
set_option linter.unusedSectionVars false
open Go.RowKit

theorem extract_list (t : ByteArray) (a b : Nat) : (t.extract a b).data.toList = (t.data.toList.take b).drop a := by
  simp [List.drop_take]
theorem isEmpty_iff (t : ByteArray) : t.toList.isEmpty = true ↔ t.data.toList = [] := by
  rw [ByteArray.toList_eq]; simp
def atEnd (st : Option ByteArray) : Bool := st.isSome && (rdL st).toList.isEmpty
theorem atEnd_iff (st : Option ByteArray) : atEnd st = true ↔ st = some mt := by
  cases st with
  | none => simp [atEnd]
  | some r =>
    simp only [atEnd, Option.isSome_some, Bool.true_and, rdL, isEmpty_iff, Option.some.injEq]
    exact ⟨fun h => ba_ext (by rw [h]; rfl), fun h => by rw [h]; rfl⟩
theorem ba_list (a b : ByteArray) : (a ++ b).data.toList = a.data.toList ++ b.data.toList := by simp
theorem ba_size (a : ByteArray) : a.size = a.data.toList.length := by rw [Array.length_toList]; rfl
theorem ba_assoc (a b c : ByteArray) : a ++ b ++ c = a ++ (b ++ c) := ba_ext (by simp [ba_list])
theorem ba_mt (a : ByteArray) : a ++ mt = a := ba_ext (by simp [ba_list, mt])
theorem mt_ba (a : ByteArray) : mt ++ a = a := ba_ext (by simp [ba_list, mt])
abbrev numB (n : Nat) : ByteArray := ⟨(Wire.digits n).toArray⟩

theorem num_back (n : Nat) (hn : n < 18446744073709551616) (r : ByteArray) : numOf (some (numB n ++ r)) = (n, some r) := by
  have h := Wire.num_digits r.data.toList n (by omega)
  rw [numOf_some (n := n) (k := (Wire.digits n).length) (by rw [ba_list]; simpa using h)]
  congr 2
  apply ba_ext
  rw [extract_list, List.take_of_length_le (by rw [← ba_size]; exact Nat.le_refl _), ba_list]
  simp
theorem text_back (t : ByteArray) (ht : t.size < 18446744073709551616) (r : ByteArray) : textOf (some (textB t ++ r)) = (t, some r) := by
  have e : textB t ++ r = numB t.size ++ (t ++ r) := by
    apply ba_ext
    simp [textB, ba_list]
  rw [e, textOf_text (n := t.size) (r := t ++ r) (num_back _ ht _) (by rw [ba_size, ba_size, ba_list]; simp)]
  congr 2
  · apply ba_ext
    rw [extract_list, ba_list, ba_size]; simp
  · apply ba_ext
    rw [extract_list, List.take_of_length_le (by rw [← ba_size]; exact Nat.le_refl _), ba_list, ba_size]; simp
/-- What was read was put so. -/
theorem num_was {s r : ByteArray} {n : Nat} (h : numOf (some s) = (n, some r)) : s = numB n ++ r ∧ n < 18446744073709551616 := by
  cases hx : Wire.num? s.data.toList 0 0 with
  | none => rw [numOf_none hx] at h; cases h
  | some nk =>
    obtain ⟨m, k⟩ := nk
    rw [numOf_some hx] at h
    obtain ⟨h1, h2, h3⟩ := Wire.num_sound hx
    simp only [Prod.mk.injEq, Option.some.injEq] at h
    obtain ⟨rfl, rfl⟩ := h
    refine ⟨ba_ext ?_, by omega⟩
    rw [ba_list, extract_list, List.take_of_length_le (by rw [← ba_size]; exact Nat.le_refl _)]
    show _ = (Wire.digits m).toArray.toList ++ _
    rw [List.toList_toArray, ← h2, List.take_append_drop]
theorem num_lt (st : Option ByteArray) : (numOf st).1 < 18446744073709551616 := by
  cases st with
  | none => simp [numOf]
  | some s =>
    cases hx : Wire.num? s.data.toList 0 0 with
    | none => rw [numOf_none hx]; simp
    | some nk =>
      obtain ⟨m, k⟩ := nk
      rw [numOf_some hx]
      have := (Wire.num_sound hx).2.2
      show m < _
      omega
theorem num_gone {st : Option ByteArray} (h : (numOf st).2 = none) : (numOf st).1 = 0 := by
  cases st with
  | none => rfl
  | some s =>
    cases hx : Wire.num? s.data.toList 0 0 with
    | none => rw [numOf_none hx]
    | some nk =>
      obtain ⟨m, k⟩ := nk
      rw [numOf_some hx] at h
      cases h
theorem text_was {s r t : ByteArray} (h : textOf (some s) = (t, some r)) : s = textB t ++ r ∧ t.size < 18446744073709551616 := by
  rcases hq : numOf (some s) with ⟨n, o⟩
  cases o with
  | none => rw [textOf_fail hq] at h; cases h
  | some q =>
    obtain ⟨h1, h2⟩ := num_was hq
    by_cases hn : n ≤ q.size
    · rw [textOf_text hq hn] at h
      simp only [Prod.mk.injEq, Option.some.injEq] at h
      obtain ⟨rfl, rfl⟩ := h
      have hz : (q.extract 0 n).size = n := by rw [ByteArray.size_extract]; omega
      refine ⟨?_, by rw [hz]; exact h2⟩
      unfold textB
      rw [hz, h1, ba_assoc]
      congr 1
      apply ba_ext
      rw [ba_list, extract_list, extract_list, List.take_of_length_le (l := q.data.toList) (i := q.size) (by rw [← ba_size]; exact Nat.le_refl _), List.drop_zero, List.take_append_drop]
    · rw [textOf_long hq hn] at h; cases h

/-- A leaf behind bytes; leaves. -/
def putB (s : ByteArray) (x : Lf) : ByteArray := (if x.1 = mt then s else s ++ textB x.1) ++ numB x.2
def imgA (n : Nat) (l : List Lf) : ByteArray := l.foldl putB (numB n)
abbrev imgB (l : List Lf) : ByteArray := imgA l.length l
theorem imgA_snoc (n : Nat) (l : List Lf) (x : Lf) : imgA n (l ++ [x]) = putB (imgA n l) x := by simp [imgA]
def smallL (x : Lf) : Prop := x.1.size ≤ 16 ∧ 0 < x.2 ∧ x.2 < 18446744073709551616
theorem numB_size (n : Nat) (hn : n < 18446744073709551616) : (numB n).size ≤ 10 := by
  have := digits_len10 n hn
  show (Wire.digits n).toArray.size ≤ 10
  simpa using this
theorem textB_size (t : ByteArray) (h : t.size ≤ 16) : (textB t).size ≤ 26 := by
  have := numB_size t.size (by omega)
  unfold textB
  rw [ByteArray.size_append]
  show (numB t.size).size + _ ≤ _
  omega
theorem putB_size {s : ByteArray} {x : Lf} (h : smallL x) : (putB s x).size ≤ s.size + 36 := by
  have h1 := numB_size x.2 h.2.2
  have h2 := textB_size x.1 h.1
  unfold putB
  rw [ByteArray.size_append]
  split
  · omega
  · rw [ByteArray.size_append]; omega
theorem imgA_size {n : Nat} (hn : n < 18446744073709551616) : ∀ {l : List Lf}, (∀ x ∈ l, smallL x) → (imgA n l).size ≤ 10 + 36 * l.length := by
  have key : ∀ (l : List Lf) (s : ByteArray), (∀ x ∈ l, smallL x) → (l.foldl putB s).size ≤ s.size + 36 * l.length := by
    intro l
    induction l with
    | nil => intro s _; simp
    | cons x l ih =>
      intro s h
      have h1 := putB_size (s := s) (h x (by simp))
      have h2 := ih (putB s x) (fun y hy => h y (by simp [hy]))
      rw [List.foldl_cons, List.length_cons]
      omega
  intro l h
  have h1 := key l (numB n) h
  have h2 := numB_size n hn
  unfold imgA
  omega

/-- Leaves that are put one behind the other. -/
def tailB (l : List Lf) : ByteArray := l.foldr (fun x s => textB x.1 ++ (numB x.2 ++ s)) mt
theorem foldl_tail : ∀ (l : List Lf) (s : ByteArray), (∀ x ∈ l, x.1 ≠ mt) → l.foldl putB s = s ++ tailB l := by
  intro l
  induction l with
  | nil => intro s _; exact (ba_mt s).symm
  | cons x l ih =>
    intro s h
    rw [List.foldl_cons, ih _ (fun y hy => h y (by simp [hy]))]
    unfold putB
    rw [if_neg (h x (by simp))]
    show _ = s ++ (textB x.1 ++ (numB x.2 ++ tailB l))
    rw [ba_assoc, ba_assoc]
theorem imgA_tail (n p : Nat) (l : List Lf) (h : ∀ x ∈ l, x.1 ≠ mt) : imgA n ((mt, p) :: l) = numB n ++ (numB p ++ tailB l) := by
  unfold imgA
  rw [List.foldl_cons, foldl_tail _ _ h]
  unfold putB
  rw [if_pos rfl, ba_assoc]

instance decMem (s : ByteArray) (l : List ByteArray) : Decidable (s ∈ l) := decidable_of_iff (l.any (fun x => decide (x = s)) = true) (by simp)
/-- The separators; the pids. -/
abbrev sepsL (l : List Lf) : List ByteArray := (l.map (·.1)).drop 1
abbrev pidsL (l : List Lf) : List Nat := l.map (·.2)
/-- What is answered to an insertion; what there is then. -/
def insBadL (l : List Lf) (sep : ByteArray) (pid : Nat) : Bool := decide (sep = mt) || decide (16 < sep.size) || decide (sep ∈ sepsL l) || decide (pid = 0) || decide (pid ∈ pidsL l)
def insAnsL (l : List Lf) (sep : ByteArray) (pid : Nat) : Nat := if insBadL l sep pid = true then 2 else if 60 ≤ l.length then 11 else 0
def insLL (l : List Lf) (sep : ByteArray) (pid : Nat) : List Lf := if insAnsL l sep pid = 0 then putL l sep pid else l
/-- Leaves of a fence. -/
structure OkL (l : List Lf) : Prop where
  head : ∃ p r, l = (mt, p) :: r
  srt : SrtL l
  len : l.length ≤ 60
  small : ∀ x ∈ l, smallL x
  nd : (l.map (·.2)).Nodup
theorem OkL.pos {l : List Lf} (h : OkL l) : 0 < l.length := by
  obtain ⟨p, r, rfl⟩ := h.head
  simp
theorem insAnsL_zero {l : List Lf} {sep : ByteArray} {pid : Nat} : insAnsL l sep pid = 0 ↔ sep ≠ mt ∧ sep.size ≤ 16 ∧ sep ∉ sepsL l ∧ pid ≠ 0 ∧ pid ∉ pidsL l ∧ l.length < 60 := by
  unfold insAnsL insBadL
  constructor
  · intro h
    split at h
    · cases h
    · rename_i h1
      split at h
      · cases h
      · simp only [Bool.or_eq_true, decide_eq_true_eq, not_or] at h1
        exact ⟨h1.1.1.1.1, by omega, h1.1.1.2, h1.1.2, h1.2, by omega⟩
  · rintro ⟨h1, h2, h3, h4, h5, h6⟩
    rw [if_neg, if_neg (by omega)]
    simp only [Bool.or_eq_true, decide_eq_true_eq, not_or]
    exact ⟨⟨⟨⟨h1, by omega⟩, h3⟩, h4⟩, h5⟩
theorem OkL.new {l : List Lf} (h : OkL l) {sep : ByteArray} (h0 : sep ≠ mt) (hn : sep ∉ sepsL l) : ∀ x ∈ l, x.1 ≠ sep := by
  obtain ⟨p, r, rfl⟩ := h.head
  intro x hx hs
  rcases List.mem_cons.1 hx with rfl | hx
  · exact h0 hs.symm
  · exact hn (show sep ∈ r.map (·.1) from List.mem_map.2 ⟨x, hx, hs⟩)
theorem OkL.rest {p : Nat} {r : List Lf} (h : OkL ((mt, p) :: r)) : ∀ x ∈ r, x.1 ≠ mt := fun x hx e => by
  have := (List.pairwise_cons.1 h.srt).1 x hx
  rw [e] at this
  exact SL_irrefl _ this
theorem putL_perm {l : List Lf} {sep : ByteArray} {pid : Nat} (hn : ∀ x ∈ l, x.1 ≠ sep) : (putL l sep pid).Perm ((sep, pid) :: l) := by
  unfold putL
  have e : (l.filter fun x => decide (SL sep x.1)) = l.filter fun x => !decide (SL x.1 sep) := by
    apply List.filter_congr
    intro x hx
    rcases SL_tri x.1 sep with h | h | h
    · simp [h, SL_asymm h]
    · exact absurd h (hn x hx)
    · simp [h, SL_asymm h]
  rw [e]
  exact List.perm_middle.trans ((List.filter_append_perm _ l).cons _)
theorem putL_srt {l : List Lf} {sep : ByteArray} {pid : Nat} (h : SrtL l) : SrtL (putL l sep pid) := by
  unfold putL
  refine List.pairwise_append.2 ⟨h.filter _, List.pairwise_cons.2 ⟨fun x hx => by simpa using (List.mem_filter.1 hx).2, h.filter _⟩, fun x hx y hy => ?_⟩
  have h1 : SL x.1 sep := by simpa using (List.mem_filter.1 hx).2
  rcases List.mem_cons.1 hy with rfl | hy
  · exact h1
  · exact SL_trans h1 (by simpa using (List.mem_filter.1 hy).2)
theorem putL_head {p : Nat} {r : List Lf} {sep : ByteArray} {pid : Nat} (h0 : sep ≠ mt) : ∃ r', putL ((mt, p) :: r) sep pid = (mt, p) :: r' := by
  unfold putL
  rw [List.filter_cons, if_pos (by simpa using mt_SL h0)]
  exact ⟨_, rfl⟩
theorem OkL.put {l : List Lf} (h : OkL l) {sep : ByteArray} {pid : Nat} (hp : pid < 18446744073709551616) (ha : insAnsL l sep pid = 0) : OkL (putL l sep pid) := by
  obtain ⟨h1, h2, h3, h4, h5, h6⟩ := insAnsL_zero.1 ha
  have hn := h.new h1 h3
  have hpm := putL_perm (pid := pid) hn
  refine ⟨?_, putL_srt h.srt, by rw [hpm.length_eq, List.length_cons]; omega, fun x hx => ?_, ?_⟩
  · obtain ⟨p, r, rfl⟩ := h.head
    obtain ⟨r', e⟩ := putL_head (p := p) (r := r) (pid := pid) h1
    exact ⟨p, r', e⟩
  · rcases List.mem_cons.1 (hpm.mem_iff.1 hx) with rfl | hx
    · exact ⟨h2, by show 0 < pid; omega, hp⟩
    · exact h.small x hx
  · have := hpm.map (·.2)
    rw [this.nodup_iff]
    exact List.nodup_cons.2 ⟨h5, h.nd⟩
theorem OkL.ins {l : List Lf} (h : OkL l) {sep : ByteArray} {pid : Nat} (hp : pid < 18446744073709551616) : OkL (insLL l sep pid) := by
  unfold insLL
  split
  · exact h.put hp ‹_›
  · exact h
theorem OkL.without {l : List Lf} (h : OkL l) {sep : ByteArray} (h0 : sep ≠ mt) : OkL (without l sep) := by
  have hsub : (Proofs.Ythofkkmnngmafaa.without l sep).Sublist l := List.filter_sublist
  refine ⟨?_, h.srt.sublist hsub, Nat.le_trans hsub.length_le h.len, fun x hx => h.small x (hsub.subset hx), (hsub.map _).nodup h.nd⟩
  obtain ⟨p, r, rfl⟩ := h.head
  refine ⟨p, r.filter fun x => decide (x.1 ≠ sep), ?_⟩
  unfold Proofs.Ythofkkmnngmafaa.without
  rw [List.filter_cons, if_pos (by simpa using fun e => h0 e.symm)]
theorem OkL.one {p : Nat} (h0 : p ≠ 0) (hp : p < 18446744073709551616) : OkL [(mt, p)] :=
  ⟨⟨p, [], rfl⟩, by simp, by simp, fun x hx => by simp at hx; subst hx; exact ⟨by show (0 : Nat) ≤ 16; omega, by show 0 < p; omega, hp⟩, by simp⟩

/-- What is read of bytes. -/
def rdAll : Nat → Option ByteArray → List Lf → ByteArray → Option (List Lf × Option ByteArray)
  | 0, st, l, _ => some (l, st)
  | k + 1, st, l, last => if (numOf (textOf st).2).2.isSome = true ∧ SL last (textOf st).1 ∧ insAnsL l (textOf st).1 (numOf (textOf st).2).1 = 0 then rdAll k (numOf (textOf st).2).2 (putL l (textOf st).1 (numOf (textOf st).2).1) (textOf st).1 else none
def parseL (s : ByteArray) : Option (List Lf) :=
  if (numOf (numOf (some s)).2).1 = 0 ∨ (numOf (some s)).1 < 1 ∨ 60 < (numOf (some s)).1 then none else
  match rdAll ((numOf (some s)).1 - 1) (numOf (numOf (some s)).2).2 [(mt, (numOf (numOf (some s)).2).1)] mt with
  | none => none
  | some (l, st) => if atEnd st = true then some l else none

theorem putL_last {l : List Lf} {sep : ByteArray} {pid : Nat} (h : ∀ x ∈ l, SL x.1 sep) : putL l sep pid = l ++ [(sep, pid)] := by
  have := putL_cut (A := l) (B := []) (pid := pid) h (by simp)
  simpa using this
theorem rdAll_img : ∀ (rest : List Lf) (l : List Lf) (last r : ByteArray), (∃ p q, l = (mt, p) :: q) → SrtL (l ++ rest) → (l ++ rest).length ≤ 60 → (∀ x ∈ rest, smallL x) → ((l ++ rest).map (·.2)).Nodup → (∀ x ∈ rest, SL last x.1) →
    rdAll rest.length (some (tailB rest ++ r)) l last = some (l ++ rest, some r) := by
  intro rest
  induction rest with
  | nil => intro l last r _ _ _ _ _ _; simp [rdAll, tailB, mt_ba]
  | cons x rest ih =>
    intro l last r hh hs hl hsm hnd hla
    obtain ⟨p, q, hq⟩ := hh
    have hx := hsm x (by simp)
    have e1 : tailB (x :: rest) ++ r = textB x.1 ++ (numB x.2 ++ (tailB rest ++ r)) := by
      show (textB x.1 ++ (numB x.2 ++ tailB rest)) ++ r = _
      rw [ba_assoc, ba_assoc]
    have e2 : textOf (some (tailB (x :: rest) ++ r)) = (x.1, some (numB x.2 ++ (tailB rest ++ r))) := by rw [e1, text_back _ (by have := hx.1; omega)]
    have e3 : numOf (some (numB x.2 ++ (tailB rest ++ r))) = (x.2, some (tailB rest ++ r)) := num_back _ hx.2.2 _
    obtain ⟨s1, s2, s3⟩ := List.pairwise_append.1 hs
    have hlx : ∀ y ∈ l, SL y.1 x.1 := fun y hy => s3 y hy x (by simp)
    have hmx : x.1 ≠ mt := fun e => by
      have := hlx (mt, p) (by rw [hq]; simp)
      rw [e] at this
      exact SL_irrefl _ this
    have hans : insAnsL l x.1 x.2 = 0 := by
      refine insAnsL_zero.2 ⟨hmx, hx.1, fun h => ?_, by have := hx.2.1; omega, fun h => ?_, by simp at hl; omega⟩
      · obtain ⟨y, hy, e⟩ := List.mem_map.1 (List.drop_subset _ _ h)
        have := hlx y hy
        rw [e] at this
        exact SL_irrefl _ this
      · rw [List.map_append] at hnd
        exact (List.nodup_append.1 hnd).2.2 x.2 h x.2 (by simp) rfl
    rw [List.length_cons, rdAll, e2, e3]
    rw [if_pos ⟨rfl, hla x (by simp), hans⟩, putL_last hlx]
    have := ih (l ++ [(x.1, x.2)]) x.1 r ⟨p, q ++ [x], by rw [hq]; rfl⟩ (by simpa using hs) (by simpa using hl) (fun y hy => hsm y (by simp [hy])) (by simpa using hnd) (fun y hy => (List.pairwise_cons.1 s2).1 y hy)
    show rdAll rest.length (some (tailB rest ++ r)) (l ++ [(x.1, x.2)]) x.1 = _
    rw [this]
    simp
/-- A fence's bytes are read back. -/
theorem parse_img {l : List Lf} (h : OkL l) : parseL (imgB l) = some l := by
  obtain ⟨p, r, rfl⟩ := h.head
  have hr := h.rest
  have hp := h.small (mt, p) (by simp)
  have hl := h.len
  have e0 : imgB ((mt, p) :: r) = numB (r.length + 1) ++ (numB p ++ (tailB r ++ mt)) := by
    show imgA (r.length + 1) _ = _
    rw [imgA_tail _ _ _ hr, ba_mt]
  simp at hl
  have hp1 : p ≠ 0 := by have := hp.2.1; show p ≠ 0; intro e; subst e; simp at this
  have hp2 : p < 18446744073709551616 := hp.2.2
  unfold parseL
  rw [e0, num_back _ (by omega), num_back _ hp2, if_neg (by omega)]
  have := rdAll_img r [(mt, p)] mt mt ⟨p, [], rfl⟩ h.srt (by simpa using hl) (fun x hx => h.small x (by simp [hx])) h.nd (fun x hx => mt_SL (hr x hx))
  show (match rdAll r.length (some (tailB r ++ mt)) [(mt, p)] mt with | none => none | some (l, st) => if atEnd st = true then some l else none) = _
  rw [this]
  show (if atEnd (some mt) = true then _ else _) = _
  rw [if_pos ((atEnd_iff _).2 rfl)]
  rfl
theorem rdAll_was : ∀ (k : Nat) (st : Option ByteArray) (l : List Lf) (last : ByteArray) (l' : List Lf) (st' : Option ByteArray), OkL l → (∀ x ∈ l, ¬ SL last x.1) → rdAll k st l last = some (l', st') → ∃ rest, l' = l ++ rest ∧ rest.length = k ∧ OkL l' ∧ ∀ r, st' = some r → st = some (tailB rest ++ r) := by
  intro k
  induction k with
  | zero =>
    intro st l last l' st' hok _ h
    simp only [rdAll, Option.some.injEq, Prod.mk.injEq] at h
    obtain ⟨rfl, rfl⟩ := h
    exact ⟨[], by simp, rfl, hok, fun r hr => by rw [hr]; simp [tailB, mt_ba]⟩
  | succ k ih =>
    intro st l last l' st' hok hla h
    rw [rdAll] at h
    split at h
    · rename_i hc
      obtain ⟨c1, c2, c3⟩ := hc
      obtain ⟨sep, hsep⟩ : ∃ sep, sep = (textOf st).1 := ⟨_, rfl⟩
      obtain ⟨st1, hst1⟩ : ∃ st1, st1 = (textOf st).2 := ⟨_, rfl⟩
      rw [← hst1, ← hsep] at h c3
      rw [← hst1] at c1
      rw [← hsep] at c2
      obtain ⟨pid, hpid⟩ : ∃ pid, pid = (numOf st1).1 := ⟨_, rfl⟩
      rw [← hpid] at h c3
      have hlt : pid < 18446744073709551616 := by rw [hpid]; exact num_lt st1
      have hls : ∀ x ∈ l, SL x.1 sep := fun x hx => by
        rcases SL_tri last x.1 with k | k | k
        · exact absurd k (hla x hx)
        · rw [← k]; exact c2
        · exact SL_trans k c2
      have hok2 := hok.put hlt c3
      rw [putL_last hls] at h hok2
      obtain ⟨rest, e1, e2, e3, e4⟩ := ih _ _ _ _ _ hok2 (fun x hx => by
        rcases List.mem_append.1 hx with hx | hx
        · exact SL_asymm (hls x hx)
        · simp at hx; subst hx; exact SL_irrefl _) h
      refine ⟨(sep, pid) :: rest, by rw [e1]; simp, by simp [e2], e3, fun r hr => ?_⟩
      have h5 := e4 r hr
      obtain ⟨s1, hs1⟩ : ∃ s1, st1 = some s1 := by
        cases hx : st1 with
        | none => rw [hx] at h5; simp [numOf] at h5
        | some s1 => exact ⟨s1, rfl⟩
      have h6 : numOf (some s1) = (pid, some (tailB rest ++ r)) := by rw [hs1] at hpid h5; rw [hpid, ← h5]
      obtain ⟨h7, _⟩ := num_was h6
      obtain ⟨s0, hs0⟩ : ∃ s0, st = some s0 := by
        cases hx : st with
        | none => rw [hx] at hst1; rw [hst1] at hs1; simp [textOf, numOf] at hs1
        | some s0 => exact ⟨s0, rfl⟩
      have h8 : textOf (some s0) = (sep, some s1) := by rw [← hs0, hsep, ← hs1, hst1]
      obtain ⟨h9, _⟩ := text_was h8
      rw [hs0, h9, h7]
      show _ = some ((textB sep ++ (numB pid ++ tailB rest)) ++ r)
      rw [ba_assoc, ba_assoc]
    · cases h
/-- What is read is a fence's bytes. -/
theorem parse_was {s : ByteArray} {l : List Lf} (h : parseL s = some l) : OkL l ∧ imgB l = s := by
  unfold parseL at h
  split at h
  · cases h
  · rename_i hc
    split at h
    · cases h
    · rename_i l0 st hrd
      split at h
      · rename_i hend
        cases h
        have hst := (atEnd_iff st).1 hend
        obtain ⟨n, hn⟩ : ∃ n, n = (numOf (some s)).1 := ⟨_, rfl⟩
        obtain ⟨st1, hst1⟩ : ∃ st1, st1 = (numOf (some s)).2 := ⟨_, rfl⟩
        rw [← hn, ← hst1] at hrd hc
        obtain ⟨p, hp⟩ : ∃ p, p = (numOf st1).1 := ⟨_, rfl⟩
        rw [← hp] at hrd hc
        have hok := OkL.one (p := p) (by omega) (by rw [hp]; exact num_lt st1)
        obtain ⟨rest, e1, e2, e3, e4⟩ := rdAll_was _ _ _ _ _ _ hok (fun x hx => by simp at hx; subst hx; exact SL_irrefl _) hrd
        have h5 := e4 mt hst
        obtain ⟨s1, hs1⟩ : ∃ s1, st1 = some s1 := by
          cases hx : st1 with
          | none => rw [hx] at h5; simp [numOf] at h5
          | some s1 => exact ⟨s1, rfl⟩
        have h6 : numOf (some s1) = (p, some (tailB rest ++ mt)) := by rw [hs1] at hp h5; rw [hp, ← h5]
        obtain ⟨h7, _⟩ := num_was h6
        have h8 : numOf (some s) = (n, some s1) := by rw [hn, ← hs1, hst1]
        obtain ⟨h9, _⟩ := num_was h8
        refine ⟨e3, ?_⟩
        have hlen : l.length = n := by rw [e1]; simp [e2]; omega
        have e5 : l = (mt, p) :: rest := e1
        have hr : ∀ x ∈ rest, x.1 ≠ mt := (e5 ▸ e3).rest
        show imgA l.length l = s
        rw [hlen, e5, imgA_tail _ _ _ hr, h9, h7, ba_mt]
      · cases h
end Go.Proofs.Ythofkkmnngmafaa
