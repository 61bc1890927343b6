/- A map of strings to records. -/
import Derived.Test.YtocfeeecgpklnaaTYD
import Derived.Maps.Own
namespace Go.Proofs.Ytocfeeecgpklnaa
set_option linter.unusedVariables false
set_option linter.unusedSimpArgs false
set_option linter.unusedSectionVars false
open Go.RowKit Go.Shelf
open Go.ChangeMaps (setBlock)

theorem put_mem {m : List Rc} {r x : Rc} : x ∈ putO m r ↔ x = r ∨ (x ∈ m ∧ x.key ≠ r.key) := by
  unfold putO ltsO gtsO
  rw [List.mem_append, List.mem_cons, List.mem_filter, List.mem_filter, decide_eq_true_eq, decide_eq_true_eq]
  constructor
  · rintro (⟨h1, h2⟩ | h | ⟨h1, h2⟩)
    · exact Or.inr ⟨h1, fun e => SL_irrefl _ (e ▸ h2)⟩
    · exact Or.inl h
    · exact Or.inr ⟨h1, fun e => SL_irrefl _ (e ▸ h2)⟩
  · rintro (h | ⟨h1, h2⟩)
    · exact Or.inr (Or.inl h)
    · rcases SL_tri x.key r.key with h | h | h
      · exact Or.inl ⟨h1, h⟩
      · exact absurd h h2
      · exact Or.inr (Or.inr ⟨h1, h⟩)
theorem lts_gts_len : ∀ {m : List Rc} {k : ByteArray}, Kr m → (ltsO m k).length + (gtsO m k).length + (if hasB m k = true then 1 else 0) = m.length
  | [], k, _ => by simp [ltsO, gtsO, hasB]
  | x :: m, k, h => by
    obtain ⟨h1, h2⟩ := List.pairwise_cons.1 h
    have ih := lts_gts_len (k := k) h2
    rw [show x :: m = [x] ++ m from rfl, lts_app, gts_app, List.length_append, List.length_append, List.length_append]
    have hb : hasB ([x] ++ m) k = (decide (x.key = k) || hasB m k) := by simp [hasB]
    rcases SL_tri x.key k with h | h | h
    · rw [lts_all (l := [x]) (by simpa using h), gts_none (l := [x]) (by simpa using SL_asymm h), hb, show decide (x.key = k) = false from decide_eq_false (fun e => SL_irrefl _ (e ▸ h))]
      simp only [List.length_cons, List.length_nil, Bool.false_or]; omega
    · have hm : ∀ y ∈ m, SL k y.key := fun y hy => h ▸ h1 y hy
      rw [lts_none (l := [x]) (by simp [h, SL_irrefl]), gts_none (l := [x]) (by simp [h, SL_irrefl]), hb, lts_none (fun y hy => SL_asymm (hm y hy)), gts_all hm, show decide (x.key = k) = true from decide_eq_true h]
      simp; omega
    · have hx : ltsO [x] k = [] := lts_none (by simpa using SL_asymm h)
      rw [gts_all (l := [x]) (by simpa using h), hx, hb, show decide (x.key = k) = false from decide_eq_false (fun e => SL_irrefl _ (e ▸ h))]
      simp only [List.length_cons, List.length_nil, Bool.false_or]; omega
theorem put_length {m : List Rc} (h : Kr m) (r : Rc) : (putO m r).length = if hasB m r.key = true then m.length else m.length + 1 := by
  have := lts_gts_len (k := r.key) h
  unfold putO
  rw [List.length_append, List.length_cons]
  split at this <;> simp_all <;> omega
theorem kr_inj {m : List Rc} (h : Kr m) {x y : Rc} (hx : x ∈ m) (hy : y ∈ m) (e : x.key = y.key) : x = y := by
  obtain ⟨i, hi, rfl⟩ := List.getElem_of_mem hx
  obtain ⟨j, hj, rfl⟩ := List.getElem_of_mem hy
  rcases Nat.lt_trichotomy i j with h1 | rfl | h1
  · exact absurd (e ▸ List.pairwise_iff_getElem.1 h i j hi hj h1) (SL_irrefl _)
  · rfl
  · exact absurd (e ▸ List.pairwise_iff_getElem.1 h j i hj hi h1) (SL_irrefl _)
def rc0 : Rc := ⟨⟨#[]⟩, 0, false, ⟨#[]⟩⟩
def getO (m : List Rc) (k : ByteArray) : Rc := (m.find? fun x => decide (x.key = k)).getD rc0
theorem getO_of {m : List Rc} (h : Kr m) {x : Rc} (hx : x ∈ m) : getO m x.key = x := by
  unfold getO
  cases hf : m.find? (fun y => decide (y.key = x.key)) with
  | none =>
    have := List.find?_eq_none.1 hf x hx
    simp at this
  | some y =>
    have h1 := List.find?_some hf
    have h2 := List.mem_of_find?_eq_some hf
    exact kr_inj h h2 hx (by simpa using h1)
theorem getO_no {m : List Rc} {k : ByteArray} (h : hasB m k = false) : getO m k = rc0 := by
  unfold getO
  rw [List.find?_eq_none.2 (by
    intro x hx
    unfold hasB at h
    rw [List.any_eq_false] at h
    exact h x hx)]
  rfl

/-- Block b is a map that holds the records m by their keys. -/
def MapR (b : Nat) (m : List Rc) : Res := fun w L => L = [b] ∧ ∃ (es : Array MapEntry) (clock : Nat), w.heap[b]? = some (.map es clock) ∧ es.size = m.length ∧ es.toList.Pairwise (fun x y => x.key ≠ y.key) ∧ (∀ e ∈ es.toList, ∃ r ∈ m, r.key.size ≤ maxLen ∧ e.key = .string r.key ∧ e.val = rcV r) ∧ (∀ r ∈ m, ∃ e ∈ es.toList, e.key = .string r.key ∧ e.val = rcV r)
instance (b : Nat) (m : List Rc) : Keep (MapR b m) where
  lt := by
    rintro w L ⟨rfl, es, cl, h, _⟩ k hk
    simp at hk; subst hk
    exact (Array.getElem?_eq_some_iff.1 h).1
  mod := by
    rintro w w' L M ⟨rfl, es, cl, h, h2⟩ hm hd
    exact ⟨rfl, es, cl, (hm.block b (Array.getElem?_eq_some_iff.1 h).1 (hd b (by simp))).trans h, h2⟩

theorem mapR_new (w : World) : MapR w.heap.size [] (w.alloc (.map #[] 0)) [w.heap.size] :=
  ⟨rfl, #[], 0, (MapKept.heap_alloc w _).1, rfl, by simp, by simp, by simp⟩

section
variable {P : Program} {t k e : TypeId} {w : World} {b : Nat} {m : List Rc} {L : List Nat}
theorem mapR_find (hk : P.underlying k = some .string) (h : MapR b m w L) (hs : Kr m) {x : ByteArray} (hx : x.size ≤ maxLen) {es : Array MapEntry} {clock : Nat} (hb : w.heap[b]? = some (.map es clock)) :
    ((Instr.findKey k (.string x) es.toList).run P w = .ok none w ∧ (∀ e ∈ es.toList, e.key ≠ .string x) ∧ hasB m x = false) ∨ ∃ j e0, (Instr.findKey k (.string x) es.toList).run P w = .ok (some (j, rcV (getO m x))) w ∧ es.toList[j]? = some e0 ∧ e0.key = .string x ∧ hasB m x = true := by
  obtain ⟨_, es', cl', hb', _, _, h1, h2⟩ := h
  rw [hb] at hb'
  cases hb'
  have K := Maps.string_keyed hk
  rcases K.find w (x := .string x) (WideMaps.keyOf_string_mk hk hx) es.toList (fun e he => by
    obtain ⟨r, _, hr, e1, _⟩ := h1 e he
    exact ⟨_, by rw [e1]; exact WideMaps.keyOf_string_mk hk hr⟩) with ⟨h3, h4⟩ | ⟨j, e0, h3, h4, h5⟩
  · refine Or.inl ⟨h3, h4, ?_⟩
    cases hb : hasB m x
    · rfl
    · obtain ⟨r, hr, e1⟩ := (hasB_iff m x).1 hb
      obtain ⟨e0, he, e2, _⟩ := h2 r hr
      exact absurd (e1 ▸ e2) (h4 e0 he)
  · obtain ⟨r, hr, _, e1, e2⟩ := h1 e0 (List.mem_of_getElem? h4)
    have e3 : r.key = x := by rw [h5] at e1; cases e1; rfl
    refine Or.inr ⟨j, e0, ?_, h4, h5, (hasB_iff m x).2 ⟨r, hr, e3⟩⟩
    rw [← e3, getO_of hs hr, ← e2, e3]; exact h3
theorem run_mapR_lookup (ht : P.underlying t = some (.map k e)) (hk : P.underlying k = some .string) (hz : ∀ w, (zeroValue e).run P w = .ok (rcV rc0) w) (h : MapR b m w L) (hs : Kr m) {x : ByteArray} (hx : x.size ≤ maxLen) (ok : Bool) :
    (Instr.lookup t (.map (some b)) (.string x) ok).run P w = .ok (if ok then .tuple #[rcV (getO m x), .bool (hasB m x)] else rcV (getO m x)) w := by
  have h' := h
  obtain ⟨_, es, cl, hb, _, _, _, _⟩ := h'
  have K := Maps.string_keyed hk
  have hc := K.check w es.isEmpty (WideMaps.keyOf_string_mk hk hx)
  rcases mapR_find hk h hs hx hb with ⟨h1, _, h2⟩ | ⟨j, e0, h1, _, _, h2⟩
  · rw [getO_no h2, h2]
    cases ok <;> simp [Instr.lookup, run_underlying ht, MapKept.run_getObj_map hb, hc, h1, hz, Result.andThen]
  · rw [h2]
    cases ok <;> simp [Instr.lookup, run_underlying ht, MapKept.run_getObj_map hb, hc, h1, Result.andThen]
theorem run_mapR_len (ht : P.underlying t = some (.map k e)) (h : MapR b m w L) (ty : TypeId) : (Builtin.len_ #[t] ty #[.map (some b)]).run P w = .ok (.int .i64 m.length) w := by
  obtain ⟨_, es, cl, hb, hn, _, _, _⟩ := h
  simp [Builtin.len_, run_underlying ht, MapKept.run_getObj_map hb, hn, goInt, Result.andThen]
theorem run_mapR_update (ht : P.underlying t = some (.map k e)) (hk : P.underlying k = some .string) (h : MapR b m w L) (hs : Kr m) (r : Rc) (hx : r.key.size ≤ maxLen) :
    ∃ w', (Instr.mapUpdate t (.map (some b)) (.string r.key) (rcV r)).run P w = .ok () w' ∧ MapR b (putO m r) w' L ∧ Mod [b] w w' := by
  have h' := h
  obtain ⟨hL, es, cl, hb, hn, hpw, hm1, hm2⟩ := h'
  have K := Maps.string_keyed hk
  have hkey := WideMaps.keyOf_string_mk (P := P) hk hx
  have hc := K.check w false hkey
  have hmod : ∀ o, Mod [b] w (setBlock w b o) := fun o => ⟨rfl, rfl, rfl, by simp [setBlock], fun i _ hi => ChangeMaps.heap_setBlock_other hb _ (fun e => hi (by rw [e]; simp))⟩
  rcases mapR_find hk h hs hx hb with ⟨h1, h3, h2⟩ | ⟨j, e0, h1, h3, h4, h2⟩
  · refine ⟨setBlock w b (.map (es.push ⟨.string r.key, rcV r, cl⟩) (cl + 1)), ?_, ⟨hL, _, _, ChangeMaps.heap_setBlock_same hb _, ?_, ?_, ?_, ?_⟩, hmod _⟩
    · simp [Instr.mapUpdate, run_underlying ht, MapKept.run_getObj_map hb, hc, h1, MapKept.run_setObj_map _ hb, Result.andThen, setBlock]
    · rw [put_length hs, h2]; simp [hn]
    · rw [Array.toList_push, List.pairwise_append]
      refine ⟨hpw, by simp, fun x hx' y hy => ?_⟩
      simp at hy; subst hy; exact h3 x hx'
    · intro x hx'
      simp only [Array.toList_push, List.mem_append, List.mem_singleton] at hx'
      rcases hx' with hx' | rfl
      · obtain ⟨y, hy, e1, e2, e3⟩ := hm1 x hx'
        refine ⟨y, put_mem.2 (Or.inr ⟨hy, fun e => ?_⟩), e1, e2, e3⟩
        exact h3 x hx' (by rw [e2, e])
      · exact ⟨r, put_mem.2 (Or.inl rfl), hx, rfl, rfl⟩
    · intro y hy
      rcases put_mem.1 hy with rfl | ⟨hy, _⟩
      · exact ⟨⟨.string y.key, rcV y, cl⟩, by simp, rfl, rfl⟩
      · obtain ⟨x, hx', e1⟩ := hm2 y hy
        exact ⟨x, by simp [hx'], e1⟩
  · have hj : es[j]? = some e0 := by simpa using h3
    obtain ⟨hjl, hje⟩ := List.getElem?_eq_some_iff.1 h3
    -- the entries then
    have who : ∀ x, x ∈ es.toList.set j { e0 with key := .string r.key, val := rcV r } ↔ x = { e0 with key := .string r.key, val := rcV r } ∨ (x ∈ es.toList ∧ x.key ≠ .string r.key) := by
      intro x
      constructor
      · intro hx'
        obtain ⟨i, hi, ex⟩ := List.getElem_of_mem hx'
        rw [List.getElem_set] at ex
        split at ex
        · exact Or.inl ex.symm
        · rename_i hne
          have hi' : i < es.toList.length := by simpa using hi
          refine Or.inr ⟨ex ▸ List.getElem_mem hi', ?_⟩
          have h44 : es.toList[j].key = .string r.key := by rw [hje]; exact h4
          rw [← ex]
          intro h6
          rcases Nat.lt_trichotomy i j with h5 | h5 | h5
          · exact List.pairwise_iff_getElem.1 hpw i j hi' hjl h5 (h6.trans h44.symm)
          · exact hne h5.symm
          · exact List.pairwise_iff_getElem.1 hpw j i hjl hi' h5 (h44.trans h6.symm)
      · rintro (rfl | ⟨hx', hne⟩)
        · exact List.mem_set hjl _
        · obtain ⟨i, hi, ex⟩ := List.getElem_of_mem hx'
          have hij : j ≠ i := by
            rintro rfl
            exact hne (by rw [← ex, hje, h4])
          rw [List.mem_iff_getElem]
          exact ⟨i, by simpa using hi, by rw [List.getElem_set, if_neg hij, ex]⟩
    refine ⟨setBlock w b (.map (es.modify j (fun e' => { e' with key := .string r.key, val := rcV r })) cl), ?_, ⟨hL, _, _, ChangeMaps.heap_setBlock_same hb _, ?_, ?_, ?_, ?_⟩, hmod _⟩
    · simp [Instr.mapUpdate, run_underlying ht, MapKept.run_getObj_map hb, hc, h1, hj, h4, K.stays w hkey, MapKept.run_setObj_map _ hb, Result.andThen, setBlock]
    · rw [put_length hs, h2]; simp [hn]
    all_goals rw [Array.toList_modify, ChangeMaps.modify_eq_set _ _ _ _ h3]
    · have : (es.toList.set j { e0 with key := .string r.key, val := rcV r }).map (·.key) = es.toList.map (·.key) := by
        rw [List.map_set]
        show (es.toList.map (·.key)).set j (.string r.key) = _
        rw [← h4, ← hje]
        apply List.ext_getElem
        · simp
        · intro k h1 h2
          rw [List.getElem_set]
          split
          · subst_vars; simp
          · rfl
      have h6 : (es.toList.map (·.key)).Pairwise (· ≠ ·) := List.pairwise_map.2 hpw
      rw [← this] at h6
      exact List.pairwise_map.1 h6
    · intro x hx'
      rcases (who x).1 hx' with rfl | ⟨hx', hne⟩
      · exact ⟨r, put_mem.2 (Or.inl rfl), hx, rfl, rfl⟩
      · obtain ⟨y, hy, e1, e2, e3⟩ := hm1 x hx'
        exact ⟨y, put_mem.2 (Or.inr ⟨hy, fun e => hne (by rw [e2, e])⟩), e1, e2, e3⟩
    · intro y hy
      rcases put_mem.1 hy with rfl | ⟨hy, hne⟩
      · exact ⟨_, (who _).2 (Or.inl rfl), rfl, rfl⟩
      · obtain ⟨x, hx', e1, e2⟩ := hm2 y hy
        exact ⟨x, (who _).2 (Or.inr ⟨hx', by rw [e1]; intro e; exact hne (Value.string.inj e)⟩), e1, e2⟩
end
end Go.Proofs.Ytocfeeecgpklnaa
