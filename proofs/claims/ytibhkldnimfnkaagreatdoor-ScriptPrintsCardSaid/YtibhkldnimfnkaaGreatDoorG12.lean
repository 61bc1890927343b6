/- Script: parts YL YM. -/
import Derived.Test.YtibhkldnimfnkaaGreatDoorG11

/- Script: which row; the words of a line in memory. -/
namespace Go.Proofs.YtibhkldnimfnkaaGreatDoor
section
set_option linter.unusedVariables false
set_option linter.unusedSimpArgs false
set_option linter.unusedSectionVars false
open Go.RowKit

theorem PlsVal.slice {N : Nat} {l : List Pl} {v : Value} {w : World} (h : PlsVal N l v w) : ∃ b cap, v = .slice b l.length cap ∧ l.length ≤ cap := by
  rcases h with ⟨rfl, rfl⟩ | ⟨B, c, _, rfl, _⟩
  · exact ⟨_, _, rfl, Nat.le_refl _⟩
  · exact ⟨_, _, rfl, Nat.le_refl _⟩
theorem RwsIn.at {N : Nat} {w : World} : ∀ {l : List Rw} {c : List Value}, RwsIn N l c w → ∀ (i : Nat) (r : Rw), l[i]? = some r →
    ∃ sl, c[i * 4]? = some (.string (str r.word)) ∧ c[i * 4 + 1]? = some (.int .i64 r.kind) ∧ c[i * 4 + 2]? = some (.int .i64 r.ck) ∧ c[i * 4 + 3]? = some sl ∧ PlsVal N r.pl sl w
  | [], _, _, i, r, hi => by simp at hi
  | r' :: l, c, ⟨sl, c', hc, h1, h2⟩, i, r, hi => by
    subst hc
    cases i with
    | zero => simp at hi; subst hi; exact ⟨sl, by simp, by simp, by simp, by simp, h1⟩
    | succ i =>
      simp at hi
      obtain ⟨sl', a1, a2, a3, a4, a5⟩ := RwsIn.at h2 i r hi
      rw [show (i + 1) * 4 = i * 4 + 4 by omega]
      refine ⟨sl', ?_, ?_, ?_, ?_, a5⟩
      · simpa using a1
      · rw [show i * 4 + 4 + 1 = (i * 4 + 1) + 4 by omega]; simpa using a2
      · rw [show i * 4 + 4 + 2 = (i * 4 + 2) + 4 by omega]; simpa using a3
      · rw [show i * 4 + 4 + 3 = (i * 4 + 3) + 4 by omega]; simpa using a4

/-- A function that asks of a row. -/
def AskR (w : World) (k : Nat) (caps : Array Value) (p : Rw → Bool) : Prop := Enters k ∧ ∀ W, Mod [] w W → ∀ (r : Rw) (b : Option Addr) (n m : Nat), Calls Tryz.prog k (#[.agg #[.string (str r.word), .int .i64 r.kind, .int .i64 r.ck, .slice b n m]] ++ caps) W fun e w' => e = .returned (.bool (p r)) ∧ Mod [] W w'
def idxR (p : Rw → Bool) : Int := match rowsL.findIdx? p with | some i => (i : Int) | none => -1
theorem idxR_yes (p : Rw → Bool) (k : Nat) (x : Rw) (hx : rowsL[k]? = some x) (hp : p x = true) (h : ∀ j y, j < k → rowsL[j]? = some y → p y = false) : idxR p = k := by
  have hk := (List.getElem?_eq_some_iff.1 hx).1
  have : rowsL.findIdx? p = some k := by
    rw [List.findIdx?_eq_some_iff_getElem]
    obtain ⟨_, rfl⟩ := List.getElem?_eq_some_iff.1 hx
    refine ⟨hk, hp, fun j hj => ?_⟩
    have := h j rowsL[j] hj (List.getElem?_eq_getElem (by omega))
    simp [this]
  simp [idxR, this]
theorem idxR_no (p : Rw → Bool) (h : ∀ j y, j < 18 → rowsL[j]? = some y → p y = false) : idxR p = -1 := by
  have : rowsL.findIdx? p = none := by
    rw [List.findIdx?_eq_none_iff]
    intro x hx
    obtain ⟨j, hj, rfl⟩ := List.getElem_of_mem hx
    exact h j _ hj (List.getElem?_eq_getElem hj)
  simp [idxR, this]
/-- What IndexFunc says, and what find says. -/
theorem idxR_find (p : Rw → Bool) : (∃ i r, idxR p = ((i : Nat) : Int) ∧ i < 18 ∧ rowsL[i]? = some r ∧ rowsL.find? p = some r) ∨ (idxR p = -1 ∧ rowsL.find? p = none) := by
  unfold idxR
  cases h : rowsL.findIdx? p with
  | none =>
    right
    refine ⟨rfl, ?_⟩
    rw [List.findIdx?_eq_none_iff] at h
    rw [List.find?_eq_none]
    intro x hx
    simp [h x hx]
  | some i =>
    left
    rw [List.findIdx?_eq_some_iff_getElem] at h
    obtain ⟨hi, h1, h2⟩ := h
    refine ⟨i, rowsL[i], rfl, hi, List.getElem?_eq_getElem hi, ?_⟩
    rw [List.find?_eq_some_iff_getElem]
    exact ⟨h1, i, hi, rfl, fun j hj => by simpa using h2 j hj⟩

set_option maxRecDepth 100000 in
set_option maxHeartbeats 1000000 in
theorem rindex_c (N : Nat) (w : World) (v : Value) (h : RwsVal N v w) (k : Nat) (caps : Array Value) (p : Rw → Bool) (hp : AskR w k caps p) :
    Calls Tryz.prog 41 #[v, .func (.func k) #[] caps] w fun e w' => e = .returned (.int .i64 (idxR p)) ∧ Mod [] w w' := by
  have HP := hid hp
  obtain ⟨B, c, hB, rfl, hb, hc⟩ := h
  have HB := hid hb
  have HC := hid hc
  have enter := hp.1
  clear hp hb hc
  go_enter Tryz.func41, Tryz.ntmps41
  go_wp2
  go_loopg [8] 18 (fun g i wr => ∃ j : Nat, i = .int .i64 j ∧ j + g = 18 ∧ Hid (∀ j' y, j' < j → rowsL[j']? = some y → p y = false) ∧ Hid (Mod [] w wr))
  · exact ⟨0, rfl, by omega, hid (by intro j' y h; omega), Mod.refl _ _⟩
  · obtain ⟨j, rfl, hj, hA, hM⟩ := hrel
    by_cases hlt : j < 18
    · obtain ⟨x, hx⟩ : ∃ x, rowsL[j]? = some x := ⟨_, List.getElem?_eq_getElem hlt⟩
      obtain ⟨sl, c0, c1, c2, c3, hpl⟩ := HC.out.at j x hx
      obtain ⟨bb, cap, rfl, _⟩ := hpl.slice
      have hbw := hM.out.blk HB.out (by simp)
      have d0 := hbw.cell (j * 4)
      have d1 := hbw.cell (j * 4 + 1)
      have d2 := hbw.cell (j * 4 + 2)
      have d3 := hbw.cell (j * 4 + 3)
      rw [List.getElem?_toArray, c0] at d0
      rw [List.getElem?_toArray, c1] at d1
      rw [List.getElem?_toArray, c2] at d2
      rw [List.getElem?_toArray, c3] at d3
      have Hx := hid hx
      clear hx c0 c1 c2 c3 hpl hbw
      go_wp2_with fail
      refine (HP.out.2 _ hM.out x _ _ _).mono ?_
      rintro e w2 ⟨rfl, hm⟩
      have hM2 := hid (hM.out.tr hm)
      clear hm
      cases hpx : p x
      · have Hpx := hid hpx
        clear hpx
        go_wp2
        go_roundg (gk - 1)
        case measure => omega
        case rel => exact ⟨j + 1, by go_num, by omega, hid (by
          intro j' y h1 h2
          rcases (by omega : j' < j ∨ j' = j) with h | rfl
          · exact hA.out j' y h h2
          · rw [Hx.out] at h2; cases h2; exact Hpx.out), hM2⟩
      · have Hpx := hid hpx
        clear hpx
        go_wp2
        go_ret
        exact ⟨ret_int (idxR_yes p j x Hx.out Hpx.out hA.out).symm, hM2.out⟩
    · obtain rfl : j = 18 := by omega
      go_wp2
      go_ret
      exact ⟨ret_int (idxR_no p hA.out).symm, hM.out⟩

/-- A line's words, in block g, held by the box lb. -/
def Wds (g lb : Nat) (l : List Wd) (w : World) : Prop := ∃ a cap, Blk w lb #[.slice a l.length cap] wdS ∧ l.length ≤ cap ∧ cap ≤ 9223372036854775807 ∧ (l ≠ [] → a = some ⟨g, 0, none⟩) ∧
  ∀ i x, l[i]? = some x → w.cell? ⟨g, i * 2, none⟩ = some (.string (str x.text)) ∧ w.cell? ⟨g, i * 2 + 1, none⟩ = some (.bool x.quoted)
theorem flat_wd : ∀ (l : List Wd) (i : Nat) (x : Wd), l[i]? = some x → (flat wdC l)[i * 2]? = some (.string (str x.text)) ∧ (flat wdC l)[i * 2 + 1]? = some (.bool x.quoted)
  | [], i, x, h => by simp at h
  | y :: l, i, x, h => by
    have e : flat wdC (y :: l) = .string (str y.text) :: .bool y.quoted :: flat wdC l := rfl
    rw [e]
    cases i with
    | zero => simp at h; subst h; exact ⟨rfl, rfl⟩
    | succ i =>
      simp at h
      have := flat_wd l i x h
      rw [show (i + 1) * 2 = i * 2 + 2 by omega, show i * 2 + 2 + 1 = i * 2 + 1 + 2 by omega]
      simpa using this
theorem Gath.wds {w0 w : World} {lb : Nat} {l : List Wd} (h : Gath w0 lb l w) : ∃ g, (w0.heap.size ≤ g ∨ w.heap.size ≤ g) ∧ Wds g lb l w := by
  obtain ⟨v, L, hb, ho, hL⟩ := h
  obtain ⟨a, cap, rfl, h1, h2, h3⟩ := ho.val
  cases l with
  | nil => exact ⟨w.heap.size, .inr (Nat.le_refl _), a, cap, hb, h1, h2, by simp, by simp⟩
  | cons x l =>
    obtain ⟨g, rfl, rfl, hc⟩ := h3 (by simp)
    refine ⟨g, .inl (hL g (by simp)), _, cap, hb, h1, h2, fun _ => rfl, fun i y hy => ?_⟩
    have hi := (List.getElem?_eq_some_iff.1 hy).1
    have := flat_wd _ i y hy
    rw [hc (i * 2) (by omega), hc (i * 2 + 1) (by omega)]
    exact this
theorem Wds.mod {g lb : Nat} {l : List Wd} {L : List Nat} {w w' : World} (h : Wds g lb l w) (hm : Mod L w w') (h1 : lb ∉ L) (h2 : g ∉ L) : Wds g lb l w' := by
  obtain ⟨a, cap, hb, h3, h4, h5, h6⟩ := h
  refine ⟨a, cap, hm.blk hb h1, h3, h4, h5, fun i x hx => ?_⟩
  obtain ⟨e1, e2⟩ := h6 i x hx
  have hlt : g < w.heap.size := by
    rcases Nat.lt_or_ge g w.heap.size with h | h
    · exact h
    · unfold World.cell? at e1
      simp [Array.getElem?_eq_none h] at e1
  have hbk := hm.block g hlt h2
  unfold World.cell? at e1 e2 ⊢
  simp only [hbk]
  exact ⟨e1, e2⟩

set_option maxRecDepth 100000 in
set_option maxHeartbeats 1000000 in
/-- line$2: is it this row's word? -/
theorem line2_c (g lb : Nat) (x : Wd) (l : List Wd) (w : World) (hl : Wds g lb (x :: l) w) : AskR w 42 #[.pointer (some ⟨lb, 0, none⟩)] (fun r => r.word == x.text) := by
  refine ⟨fun _ _ => rfl, fun W hm r b n m => ?_⟩
  obtain ⟨a, cap, hb, h1, h2, h3, h4⟩ := hl.mod hm (by simp) (by simp)
  obtain rfl := h3 (by simp)
  have lb0 := hb.cell 0
  have lbl := hb.lt
  simp only [List.getElem?_toArray, List.getElem?_cons_zero, List.length_cons] at lb0
  obtain ⟨x0, x1⟩ := h4 0 x rfl
  have gl : g < W.heap.size := by
    rcases Nat.lt_or_ge g W.heap.size with h | h
    · exact h
    · unfold World.cell? at x0
      simp [Array.getElem?_eq_none h] at x0
  have hn0 : 0 < l.length + 1 := by omega
  have hn : (0 : Int) < (l.length : Int) + 1 := by omega
  have hmA := (Mod.refl [] W).alloc (.cells #[.string (str r.word), .int .i64 r.kind, .int .i64 r.ck, .slice b n m] 93)
  have HMA := hid hmA
  simp only [Nat.zero_mul, Nat.zero_add] at x0 x1
  clear hb h3 h4 hl hmA
  go_enter Tryz.func42, Tryz.ntmps42
  go_wp2
  go_region
  go_wp2
  go_ret
  exact ⟨rfl, HMA.out.drew⟩
end
end Go.Proofs.YtibhkldnimfnkaaGreatDoor

/- Script: a line is read. -/
namespace Go.Proofs.YtibhkldnimfnkaaGreatDoor
section
set_option linter.unusedVariables false
set_option linter.unusedSimpArgs false
set_option linter.unusedSectionVars false
open Go.RowKit

/-- A step with nothing in it. -/
abbrev zeroC : Array Value := #[.int .i64 0, .int .i64 0, .int .i64 0, .int .i64 0, .int .u64 0, .string ⟨#[]⟩, .string ⟨#[]⟩, .string ⟨#[]⟩]
theorem fold_frame (A : Array Value) : ∀ (ds : List Nat) (T : Array Value), T.size = A.size → (∀ t, t ∉ ds → T.getD t undef = A.getD t undef) → ds.foldl (fun T d => T.setIfInBounds d (A.getD d undef)) T = A
  | [], T, hs, h => by
    refine Array.ext hs (fun i h1 h2 => ?_)
    have := h i (by simp)
    have h1 : i < T.size := h1
    rw [Array.getD_eq_getD_getElem?, Array.getD_eq_getD_getElem?, Array.getElem?_eq_getElem h1, Array.getElem?_eq_getElem h2] at this
    exact this
  | d :: ds, T, hs, h => by
    refine fold_frame A ds _ (by simpa using hs) (fun t ht => ?_)
    by_cases hd : d = t
    · subst hd
      by_cases hlt : d < T.size
      · rw [Array.getD_eq_getD_getElem?, Array.getElem?_setIfInBounds_self_of_lt hlt]
        rfl
      · rw [Array.getD_eq_getD_getElem?, Array.getElem?_eq_none (by simpa using hlt), Array.getD_eq_getD_getElem?, Array.getElem?_eq_none (by omega)]
    · rw [Array.getD_eq_getD_getElem?, Array.getElem?_setIfInBounds_ne hd, ← Array.getD_eq_getD_getElem?]
      exact h t (by simp [ht, Ne.symm hd])
/-- The whole frame behind a region. -/
theorem RegAt.frame {ops : Array Oper} {S : World → Prop} {V : Nat → Value → World → Prop} {a0 a : Act} {listed : Array Bool} {w : World} (h : RegAt ops S V a0 listed a w) :
    a = { tmps := (ops.toList.filterMap (·.dst)).foldl (fun T d => T.setIfInBounds d (a.tmps.getD d undef)) a0.tmps, defers := a0.defers } := by
  have h1 := fold_frame a.tmps (ops.toList.filterMap (·.dst)) a0.tmps h.size.symm (fun t ht => (h.kept t (fun i o ho hc => ht (List.mem_filterMap.2 ⟨o, by simpa using Array.mem_of_getElem? ho, hc⟩))).symm)
  have h2 := h.defers
  rw [h1, ← h2]
/-- What comes of reading a line. -/
def LineG (o : Ln) (w : World) (e : Ending) (w' : World) : Prop := Mod [] w w' ∧ match o with
  | .blank => e = .returned (.tuple #[stF (st0 0 0), .bool false])
  | .bad c => e = .panicked (pan c)
  | .ok t => e = .returned (.tuple #[stF t, .bool true])
theorem readP_twice {p : Pl} {x : Wd} {s t : St} (h : readP p x s = some t) : readP p x t = some t := by
  cases p with
  | nA lo hi => rw [readP_nA, Option.map_eq_some_iff] at h ⊢; obtain ⟨n, hn, rfl⟩ := h; exact ⟨n, hn, rfl⟩
  | nB lo hi => rw [readP_nB, Option.map_eq_some_iff] at h ⊢; obtain ⟨n, hn, rfl⟩ := h; exact ⟨n, hn, rfl⟩
  | who =>
    simp only [readP] at h ⊢
    split at h
    · rename_i h1
      cases h
      rw [if_pos h1]
    · rename_i h1
      split at h
      · rename_i h2
        cases h
        rw [if_neg h1, if_pos h2]
      · cases h
  | ts => simp only [readP, Option.map_eq_some_iff] at h ⊢; obtain ⟨n, hn, rfl⟩ := h; exact ⟨n, hn, rfl⟩
  | key lo => simp only [readP, Option.map_eq_some_iff] at h ⊢; obtain ⟨n, hn, rfl⟩ := h; exact ⟨n, hn, rfl⟩
  | hi => simp only [readP, Option.map_eq_some_iff] at h ⊢; obtain ⟨n, hn, rfl⟩ := h; exact ⟨n, hn, rfl⟩
  | val => simp only [readP, Option.map_eq_some_iff] at h ⊢; obtain ⟨n, hn, rfl⟩ := h; exact ⟨n, hn, rfl⟩
theorem drop_at {α : Type} {l : List α} {j : Nat} {x : α} (h : l[j]? = some x) : l.drop j = x :: l.drop (j + 1) := by
  obtain ⟨hj, rfl⟩ := List.getElem?_eq_some_iff.1 h
  exact List.drop_eq_getElem_cons hj
/-- One place of a row's, in memory. -/
theorem PlsIn.at {N : Nat} {w : World} : ∀ {l : List Pl} {c : List Value}, PlsIn N l c w → ∀ (i : Nat) (p : Pl), l[i]? = some p → ∃ f g, c[i * 2]? = some f ∧ c[i * 2 + 1]? = some g ∧ PlVal N p (.agg #[f, g]) w
  | [], _, _, i, r, hi => by simp at hi
  | q :: l, _, ⟨f, g, c', rfl, h1, h2⟩, i, p, hi => by
    cases i with
    | zero => simp at hi; subst hi; exact ⟨f, g, rfl, rfl, h1⟩
    | succ i =>
      simp at hi
      obtain ⟨f', g', a1, a2, a3⟩ := PlsIn.at h2 i p hi
      rw [show (i + 1) * 2 = i * 2 + 2 by omega]
      exact ⟨f', g', by simpa using a1, by rw [show i * 2 + 2 + 1 = (i * 2 + 1) + 2 by omega]; simpa using a2, a3⟩
theorem PlsVal.at {N : Nat} {l : List Pl} {b : Option Addr} {n cap : Nat} {w : World} (h : PlsVal N l (.slice b n cap) w) (i : Nat) (p : Pl) (hi : l[i]? = some p) :
    ∃ B f g, b = some ⟨B, 0, none⟩ ∧ B < w.heap.size ∧ w.cell? ⟨B, i * 2, none⟩ = some f ∧ w.cell? ⟨B, i * 2 + 1, none⟩ = some g ∧ PlVal N p (.agg #[f, g]) w := by
  rcases h with ⟨rfl, _⟩ | ⟨B, c, _, e, hb, hc⟩
  · simp at hi
  · simp only [Value.slice.injEq] at e
    obtain ⟨rfl, _, _⟩ := e
    obtain ⟨f, g, a1, a2, a3⟩ := hc.at i p hi
    have c0 := hb.cell (i * 2)
    have c1 := hb.cell (i * 2 + 1)
    rw [List.getElem?_toArray, a1] at c0
    rw [List.getElem?_toArray, a2] at c1
    exact ⟨B, f, g, rfl, hb.lt, c0, c1, a3⟩
theorem Wds.at {g lb : Nat} {l : List Wd} {w : World} (h : Wds g lb l w) (i : Nat) (x : Wd) (hi : l[i]? = some x) :
    ∃ cap, lb < w.heap.size ∧ g < w.heap.size ∧ l.length ≤ cap ∧ w.cell? ⟨lb, 0, none⟩ = some (.slice (some ⟨g, 0, none⟩) l.length cap) ∧ w.cell? ⟨g, i * 2, none⟩ = some (.string (str x.text)) ∧ w.cell? ⟨g, i * 2 + 1, none⟩ = some (.bool x.quoted) := by
  obtain ⟨a, cap, hb, h1, h2, h3, h4⟩ := h
  obtain rfl := h3 (by rintro rfl; simp at hi)
  obtain ⟨e1, e2⟩ := h4 i x hi
  have c0 := hb.cell 0
  simp only [List.getElem?_toArray, List.getElem?_cons_zero] at c0
  refine ⟨cap, hb.lt, ?_, h1, c0, e1, e2⟩
  rcases Nat.lt_or_ge g w.heap.size with h | h
  · exact h
  · unfold World.cell? at e1
    simp [Array.getElem?_eq_none h] at e1
/-- A line, by its words. -/
def lineW (l : List Wd) (is : Bool) : Ln :=
  if l.isEmpty && is then .blank
  else match rowAt l with
    | none => .bad 19
    | some r =>
      if is && l.length == r.pl.length + 1 then
        match readAll r.pl l.tail (st0 r.kind r.ck) with
        | none => .bad 4
        | some t => .ok t
      else .bad 4
theorem lineL_W (s : Bs) : lineL s = lineW (wordsL s).1 (wordsL s).2 := rfl

set_option maxRecDepth 100000 in
theorem gather_c (w : World) (sb lb : Nat) (s : Bs) (hs : Blk w sb #[.string (str s)] 9) (hb : Blk w lb #[.slice none 0 0] wdS) (hsl : s.length < 4294967000) :
    Calls Tryz.prog 22 #[.func (.func 38) #[] #[.pointer (some ⟨sb, 0, none⟩), .pointer (some ⟨lb, 0, none⟩)]] w fun e w' =>
      e = .returned (.int .i64 (if (wordsL s).2 then 0 else 4)) ∧ Mod [lb] w w' ∧ ∃ g, w.heap.size ≤ g ∧ Wds g lb (wordsL s).1 w' := by
  have hm0 := (Mod.refl [] w).alloc (.cells #[.int .i64 0] 27)
  have hbl := hb.lt
  have hz : (w.alloc (.cells #[.int .i64 0] 27)).heap.size = w.heap.size + 1 := by simp
  refine (safely_c w _ _ (fun _ _ => rfl) (fun o W => o = (if (wordsL s).2 then none else some 4) ∧ Gath (w.alloc (.cells #[.int .i64 0] 27)) lb (wordsL s).1 W ∧ Mod [lb] (w.alloc (.cells #[.int .i64 0] 27)) W) ?_).mono ?_
  · refine (line1_c _ sb lb s (hm0.blk hs (by simp)) (hm0.blk hb (by simp)) hsl).mono ?_
    rintro e W ⟨he, hg, hm⟩
    refine ⟨⟨_, hm.blk (Blk.new w _ _) (by simp; omega)⟩, ?_⟩
    cases h : (wordsL s).2 with
    | true => rw [h] at he; exact .inl ⟨he, rfl, hg, hm⟩
    | false => rw [h] at he; exact .inr ⟨4, he, rfl, hg, hm⟩
  · rintro e w' ⟨o, w1, ⟨rfl, hg, hm⟩, hs1, hs2, hm2, rfl⟩
    refine ⟨by cases (wordsL s).2 <;> rfl, ?_, ?_⟩
    · exact (hm0.trans hm (m := [lb]) (fun _ h _ => by cases h) (fun _ h _ => h)).trans hm2 (fun _ h _ => h) (fun x hx hlt => by simp at hx; omega)
    · obtain ⟨g, h1, h2⟩ := hg.wds
      refine ⟨g, by rcases h1 with h | h <;> omega, h2.mod hm2 (by simp; omega) (by simp; rcases h1 with h | h <;> omega)⟩

/-- A step is written. -/
abbrev putSt (W : World) (b : Nat) (t : St) : World :=
  (((((((W.setCell ⟨b, 0, none⟩ (.int .i64 t.kind)).setCell ⟨b, 1, none⟩ (.int .i64 t.a)).setCell ⟨b, 2, none⟩ (.int .i64 t.b)).setCell ⟨b, 3, none⟩ (.int .i64 t.ck)).setCell ⟨b, 4, none⟩ (.int .u64 (t.ts : Int))).setCell ⟨b, 5, none⟩ (.string (str t.key))).setCell ⟨b, 6, none⟩ (.string (str t.hi))).setCell ⟨b, 7, none⟩ (.string (str t.val))
theorem putSt_blk {W : World} {b : Nat} {s : St} (t : St) (h : Blk W b (stA s) 46) : Blk (putSt W b t) b (stA t) 46 := by
  have h8 := (((((((h.set 0 (.int .i64 t.kind)).set 1 (.int .i64 t.a)).set 2 (.int .i64 t.b)).set 3 (.int .i64 t.ck)).set 4 (.int .u64 (t.ts : Int))).set 5 (.string (str t.key))).set 6 (.string (str t.hi))).set 7 (.string (str t.val))
  simp only [List.setIfInBounds_toArray, List.set_cons_succ, List.set_cons_zero] at h8
  exact h8
theorem putSt_mod {W : World} {b : Nat} (t : St) : Mod [b] W (putSt W b t) :=
  ((((((((Mod.refl [b] W).setCell (p := ⟨b, 0, none⟩) (Or.inl (by simp)) _).setCell (p := ⟨b, 1, none⟩) (Or.inl (by simp)) _).setCell (p := ⟨b, 2, none⟩) (Or.inl (by simp)) _).setCell (p := ⟨b, 3, none⟩) (Or.inl (by simp)) _).setCell (p := ⟨b, 4, none⟩) (Or.inl (by simp)) _).setCell (p := ⟨b, 5, none⟩) (Or.inl (by simp)) _).setCell (p := ⟨b, 6, none⟩) (Or.inl (by simp)) _).setCell (p := ⟨b, 7, none⟩) (Or.inl (by simp)) _
theorem st_cells {W : World} {b : Nat} {t : St} (h : Blk W b (stA t) 46) : W.cell? ⟨b, 0, none⟩ = some (.int .i64 t.kind) ∧ W.cell? ⟨b, 1, none⟩ = some (.int .i64 t.a) ∧ W.cell? ⟨b, 2, none⟩ = some (.int .i64 t.b) ∧ W.cell? ⟨b, 3, none⟩ = some (.int .i64 t.ck) ∧ W.cell? ⟨b, 4, none⟩ = some (.int .u64 (t.ts : Int)) ∧ W.cell? ⟨b, 5, none⟩ = some (.string (str t.key)) ∧ W.cell? ⟨b, 6, none⟩ = some (.string (str t.hi)) ∧ W.cell? ⟨b, 7, none⟩ = some (.string (str t.val)) :=
  ⟨h.cell 0, h.cell 1, h.cell 2, h.cell 3, h.cell 4, h.cell 5, h.cell 6, h.cell 7⟩

set_option maxRecDepth 100000 in
set_option maxHeartbeats 2000000 in
theorem line_c (s : Bs) (w : World) (hs : s.length < 4294967000) : Calls Tryz.prog 24 #[.string (str s)] w (LineG (lineL s) w) := by
  have hmf := mkFunc
  have HLEN := hid (wordsL_len s)
  rw [lineL_W]
  have HG := hid (fun W sb lb h1 h2 => gather_c W sb lb s h1 h2 hs)
  obtain ⟨l, is, hw⟩ : ∃ l is, wordsL s = (l, is) := ⟨_, _, rfl⟩
  rw [hw] at HLEN HG ⊢
  simp only at HLEN HG ⊢
  have HS := hid hs
  clear hw hs
  obtain ⟨ob, hob⟩ : ∃ ob, ob = w.heap.size + 1 := ⟨_, rfl⟩
  obtain ⟨lb, hlb⟩ : ∃ lb, lb = w.heap.size + 1 + 1 := ⟨_, rfl⟩
  obtain ⟨W0, hW0⟩ : ∃ W0, W0 = ((w.alloc (.cells #[.string (str s)] 9)).alloc (.cells zeroC 46)).alloc (.cells #[.slice none 0 0] wdS) := ⟨_, rfl⟩
  have hm0 : Mod [] w W0 := by rw [hW0]; exact (((Mod.refl [] w).alloc _).alloc _).alloc _
  have hsb : Blk W0 w.heap.size #[.string (str s)] 9 := by rw [hW0]; exact ((Blk.new w _ _).alloc _).alloc _
  have z1 : (w.alloc (.cells #[.string (str s)] 9)).heap.size = ob := by rw [hob]; simp
  have z2 : ((w.alloc (.cells #[.string (str s)] 9)).alloc (.cells zeroC 46)).heap.size = lb := by rw [hlb]; simp
  have hobk : Blk W0 ob (stA (st0 0 0)) 46 := by rw [hW0, ← z1]; exact (Blk.new _ _ _).alloc _
  have hlbk : Blk W0 lb #[.slice none 0 0] wdS := by rw [hW0, ← z2]; exact Blk.new _ _ _
  have HM0 := hid hm0
  have HSB := hid hsb
  have HOB := hid hobk
  have HLB := hid hlbk
  have HW0 := hid hW0
  have Hob := hid hob
  have Hlb := hid hlb
  clear hm0 hsb z1 z2 hobk hlbk hW0 hob hlb
  go_enter Tryz.func24, Tryz.ntmps24
  go_wp2_with fail
  rw [← HW0.out, ← Hlb.out, ← Hob.out]
  refine (HG.out W0 w.heap.size lb HSB.out HLB.out).mono ?_
  rintro e w1 ⟨rfl, hm, g, hg, hwd⟩
  have hgw : w.heap.size + 3 ≤ g := by
    have : W0.heap.size = w.heap.size + 3 := by rw [HW0.out]; simp
    omega
  have hob1 := hm.blk HOB.out (by simp; rw [Hob.out, Hlb.out]; omega)
  have hm1 : Mod [] w w1 := HM0.out.trans hm (fun _ h _ => h) (fun x hx hlt => by simp at hx; have := Hlb.out; omega)
  have oc := hob1.cell
  have of0 := hob1.free
  have ol := hob1.lt
  obtain ⟨la, lcap, hlk, hl1, hl2, hl3, hl4⟩ := hwd
  have HWD := hid (show Wds g lb l w1 from ⟨la, lcap, hlk, hl1, hl2, hl3, hl4⟩)
  have lc0 := hlk.cell 0
  have ll0 := hlk.lt
  simp only [List.getElem?_toArray, List.getElem?_cons_zero] at lc0
  have HM1 := hid hm1
  have HOB1 := hid hob1
  have HGW := hid hgw
  clear hm hm1 hob1 hgw hg HG HM0 HSB HOB HLB HW0 hlk
  cases l with
  | nil =>
    simp only [List.length_nil] at lc0
    cases is with
    | true =>
      obtain ⟨o0, o1, o2, o3, o4, o5, o6, o7⟩ := st_cells HOB1.out
      clear oc hl4
      go_wp2_with fail
      show bodyPost Tryz.prog Tryz.f24 _ _ _ (putSt w1 ob (st0 0 0))
      obtain ⟨W2, hW2⟩ : ∃ W2, W2 = putSt w1 ob (st0 0 0) := ⟨_, rfl⟩
      rw [← hW2]
      have hb2 : Blk W2 ob (stA (st0 0 0)) 46 := by rw [hW2]; exact putSt_blk _ HOB1.out
      have hm2 : Mod [ob] w1 W2 := by rw [hW2]; exact putSt_mod _
      obtain ⟨p0, p1, p2, p3, p4, p5, p6, p7⟩ := st_cells hb2
      refine bodyPost_ret (v := .tuple #[stF (st0 0 0), .bool false]) (by simp [results, Tryz.results24, go_sem, p0, p1, p2, p3, p4, p5, p6, p7]) rfl ⟨HM1.out.trans hm2 (fun _ h _ => h) (fun x hx hlt => by simp at hx; have := Hob.out; omega), rfl⟩
    | false =>
      clear oc hl4
      go_wp2_with fail
      refine (rows_c w1).mono ?_
      rintro e w2 ⟨hm, v, rfl, hrv⟩
      obtain ⟨la2, lcap2, hlk2, hl12, hl22, hl32, hl42⟩ := HWD.out.mod hm (by simp) (by simp)
      have lc2 := hlk2.cell 0
      have ll2 := hlk2.lt
      simp only [List.getElem?_toArray, List.getElem?_cons_zero, List.length_nil] at lc2
      have HM2 := hid (HM1.out.tr hm)
      clear hm hrv lc0 ll0 of0 ol hlk2 hl42
      go_wp2_with fail
      exact ⟨rfl, HM2.out, rfl⟩
  | cons x l =>
    obtain rfl := hl3 (by simp)
    simp only [List.length_cons] at lc0
    have hn0 : 0 < l.length + 1 := by omega
    have hn1 : ¬ l.length + 1 = 0 := by omega
    have hn2 : (0 : Int) < (l.length : Int) + 1 := by omega
    have hn3 : ¬ (l.length : Int) + 1 = 0 := by omega
    clear oc hl4
    obtain ⟨e1, he1⟩ : ∃ e1 : Int, e1 = if is = true then 0 else 4 := ⟨_, rfl⟩
    rw [← he1]
    have He1 := hid he1
    clear he1
    go_wp2_with fail
    refine (rows_c w1).mono ?_
    rintro e w2 ⟨hm, v, rfl, hrv⟩
    have hwd2 := HWD.out.mod hm (by simp) (by simp)
    have HWD2 := hid hwd2
    obtain ⟨la2, lcap2, hlk2, hl12, hl22, hl32, hl42⟩ := hwd2
    obtain rfl := hl32 (by simp)
    have lc2 := hlk2.cell 0
    have ll2 := hlk2.lt
    obtain ⟨x0, x1⟩ := hl42 0 x rfl
    simp only [Nat.zero_mul, Nat.zero_add] at x0 x1
    simp only [List.getElem?_toArray, List.getElem?_cons_zero, List.length_cons] at lc2
    have HM2 := hid (HM1.out.tr hm)
    have HOB2 := hid (hm.blk HOB1.out (by simp))
    have HRV := hid hrv
    have HZ2 := hid hm.size
    have HN := hid (show ob < w1.heap.size ∧ lb < w1.heap.size ∧ g < w1.heap.size from ⟨ol, ll0, by
      obtain ⟨_, _, _, _, _, _, h6⟩ := HWD.out
      obtain ⟨h6, _⟩ := h6 0 x rfl
      rcases Nat.lt_or_ge g w1.heap.size with h | h
      · exact h
      · unfold World.cell? at h6
        simp [Array.getElem?_eq_none h] at h6⟩)
    clear hm hrv lc0 ll0 of0 ol hlk2 hl42 HWD HM1 HOB1
    obtain ⟨t, q⟩ := x
    cases q with
    | true =>
      have HL : Hid (lineW (⟨t, true⟩ :: l) is = .bad 19) := rfl
      go_wp2_with fail
      refine ⟨rfl, HM2.out, ?_⟩
      rw [HL.out]
      rfl
    | false =>
      go_wp2_with fail
      refine (rindex_c w1.heap.size w2 v HRV.out _ _ _ (line2_c g lb _ l w2 HWD2.out)).mono ?_
      rintro e w3 ⟨rfl, hm⟩
      have HM3 := hid (HM2.out.tr hm)
      have HZ3 := hid (Nat.le_trans HZ2.out hm.size)
      rcases idxR_find (fun r => r.word == t) with ⟨i, r, hi, hi18, hri, hf⟩ | ⟨hi, hf⟩
      · have HRA : Hid (rowAt (⟨t, false⟩ :: l) = some r) := hf
        rw [hi]
        have hrv := HRV.out.later (Later.mod hm)
        obtain ⟨B, c, hB, rfl, hbk, hrs⟩ := hrv
        obtain ⟨sl, c0, c1, c2, c3, hpl⟩ := hrs.at i r hri
        obtain ⟨bb, cap, rfl, hcap⟩ := hpl.slice
        have d0 := hbk.cell (i * 4)
        have d1 := hbk.cell (i * 4 + 1)
        have d2 := hbk.cell (i * 4 + 2)
        have d3 := hbk.cell (i * 4 + 3)
        rw [List.getElem?_toArray, c0] at d0
        rw [List.getElem?_toArray, c1] at d1
        rw [List.getElem?_toArray, c2] at d2
        rw [List.getElem?_toArray, c3] at d3
        have HPL := hid hpl
        have HWD3 := hid (HWD2.out.mod hm (by simp) (by simp))
        have HOB3 := hid (hm.blk HOB2.out (by simp))
        have hi0 : (0 : Int) ≤ (i : Int) := by omega
        have hi1 : ¬ (i : Int) < 0 := by omega
        have hi2 : (i : Int) < 18 := by omega
        clear hm hf hi c0 c1 c2 c3 hpl hbk hrs lc2 ll2 x0 x1 HWD2 HOB2
        obtain ⟨la3, lcap3, hlk3, _, hl23, hl33, _⟩ := HWD3.out
        obtain rfl := hl33 (by simp)
        have lc3 := hlk3.cell 0
        have ll3 := hlk3.lt
        simp only [List.getElem?_toArray, List.getElem?_cons_zero, List.length_cons] at lc3
        have hpn : r.pl.length < 4 := by
          have := List.all_eq_true.1 rows_okW r (List.mem_of_getElem? hri)
          simp only [Bool.and_eq_true, decide_eq_true_eq] at this
          exact this.2
        have hpi : (r.pl.length : Int) < 4 := by omega
        have hpi0 : (0 : Int) ≤ (r.pl.length : Int) := by omega
        clear hri hlk3
        cases is with
        | false =>
          obtain rfl : e1 = 4 := He1.out
          have HL : Hid (lineW (⟨t, false⟩ :: l) false = .bad 4) := by
            show _ = _
            unfold lineW
            rw [HRA.out]
            rfl
          go_wp2_with fail
          refine (must_no _).mono ?_
          rintro e w4 ⟨rfl, rfl⟩
          refine ⟨rfl, HM3.out.alloc _, ?_⟩
          rw [HL.out]
          rfl
        | true =>
          obtain rfl : e1 = 0 := He1.out
          by_cases hlen : l.length = r.pl.length
          · have hbq : ((l.length : Int) + 1 == (r.pl.length : Int) + 1) = true := by simp [hlen]
            have Hbq := hid hbq
            have Hlen := hid hlen
            clear hbq hlen
            go_wp2_with fail
            rw [Hbq.out]
            obtain ⟨rb, hrb⟩ : ∃ rb, rb = w3.heap.size := ⟨_, rfl⟩
            obtain ⟨w4, hw4⟩ : ∃ w4, w4 = w3.alloc (.cells #[.string (str r.word), .int .i64 r.kind, .int .i64 r.ck, .slice bb r.pl.length cap] 93) := ⟨_, rfl⟩
            rw [← hw4, ← hrb]
            have hm4 : Mod [] w3 w4 := by rw [hw4]; exact (Mod.refl [] w3).alloc _
            have hrk : Blk w4 rb #[.string (str r.word), .int .i64 r.kind, .int .i64 r.ck, .slice bb r.pl.length cap] 93 := by rw [hw4, hrb]; exact Blk.new _ _ _
            have HM4 := hid (HM3.out.tr hm4)
            have HOB4 := hid (hm4.blk HOB3.out (by simp))
            have HWD4 := hid (HWD3.out.mod hm4 (by simp) (by simp))
            have HPL4 := hid (HPL.out.later (Later.mod hm4))
            have hrb3 : ob < rb := by rw [hrb]; have := HOB3.out.lt; exact this
            have hn13 : w1.heap.size ≤ w4.heap.size := Nat.le_trans HZ3.out hm4.size
            have r0 := hrk.cell 0
            have r1 := hrk.cell 1
            have r2 := hrk.cell 2
            have r3 := hrk.cell 3
            have rl := hrk.lt
            simp only [List.getElem?_toArray, List.getElem?_cons_zero, List.getElem?_cons_succ] at r0 r1 r2 r3
            obtain ⟨o0, o1, o2, o3, o4, o5, o6, o7⟩ := st_cells HOB4.out
            have of0 := HOB4.out.free
            have ol := HOB4.out.lt
            clear hm4 hrk hw4 hrb d0 d1 d2 d3 HPL HWD3 HOB3 HM3 HM2 lc3 ll3 HRV
            refine (must_yes _).mono ?_
            rintro e w5 ⟨rfl, rfl⟩
            go_wp2_with fail
            show Code.wp Tryz.prog _ _ _ (putSt w4 ob (st0 r.kind r.ck))
            obtain ⟨W5, hW5⟩ : ∃ W5, W5 = putSt w4 ob (st0 r.kind r.ck) := ⟨_, rfl⟩
            rw [← hW5]
            have HOB5 : Hid (Blk W5 ob (stA (st0 r.kind r.ck)) 46) := by rw [hW5]; exact putSt_blk _ HOB4.out
            have HM45 : Hid (Mod [ob] w4 W5) := by rw [hW5]; exact putSt_mod _
            have HM5 : Hid (Mod [] w W5) := HM4.out.trans HM45.out (fun _ h _ => h) (fun x hx hlt => by simp at hx; have := Hob.out; omega)
            have HWD5 := hid (HWD4.out.mod HM45.out (by simp; have := Hob.out; have := Hlb.out; omega) (by simp; have := Hob.out; have := HGW.out; omega))
            have HPL5 := hid (HPL4.out.later ⟨[ob], HM45.out, fun y hy => .inl (by simp at hy; subst hy; exact HN.out.1)⟩)
            have HZ5 := hid (Nat.le_trans hn13 HM45.out.size)
            have HL : Hid (lineW (⟨t, false⟩ :: l) true = match readAll r.pl l (st0 r.kind r.ck) with | none => .bad 4 | some t => .ok t) := by
              show _ = _
              unfold lineW
              rw [HRA.out]
              simp [Hlen.out]
            clear hW5 HOB4 HM4 HM45 HWD4 HPL4 hn13 r0 r1 r2 r3 rl o0 o1 o2 o3 o4 o5 o6 o7 of0 ol hrb3 hl33 He1 HRA HZ3 HZ2
            go_loopg [64] r.pl.length (fun g i wr => ∃ (j : Nat) (sj : St), i = .int .i64 j ∧ j + g = r.pl.length ∧ Hid (readAll (r.pl.drop j) (l.drop j) sj = readAll r.pl l (st0 r.kind r.ck)) ∧ Hid (Blk wr ob (stA sj) 46) ∧ Hid (Mod [ob] W5 wr))
            · exact ⟨0, st0 r.kind r.ck, rfl, by omega, hid rfl, HOB5, Mod.refl _ _⟩
            · obtain ⟨j, sj, rfl, hj, hA, hB, hM⟩ := hrel
              by_cases hlt : j < r.pl.length
              · obtain ⟨p, hp⟩ : ∃ p, r.pl[j]? = some p := ⟨_, List.getElem?_eq_getElem hlt⟩
                obtain ⟨x, hx⟩ : ∃ x, l[j]? = some x := ⟨_, List.getElem?_eq_getElem (by have := Hlen.out; omega)⟩
                have HA1 : Hid (readAll (p :: r.pl.drop (j + 1)) (x :: l.drop (j + 1)) sj = readAll r.pl l (st0 r.kind r.ck)) := by
                  show _ = _
                  rw [← hA.out, drop_at hp, drop_at hx]
                have HXL : Hid (x.text.length < 4294967000) := Nat.lt_of_le_of_lt (HLEN.out x (by simp [List.mem_of_getElem? hx])) HS.out
                have hlater : Later w1.heap.size W5 wr := ⟨[ob], hM.out, fun y hy => .inl (by simp at hy; subst hy; exact HN.out.1)⟩
                obtain ⟨B', f, g', rfl, hBl, p0, p1, hpv⟩ := (HPL5.out.later hlater).at j p hp
                obtain ⟨k1, cp1, k2, cp2, e, en1, en2, hread, hprint⟩ := hpv
                obtain ⟨rfl, rfl⟩ : f = .func (.func k1) #[] cp1 ∧ g' = .func (.func k2) #[] cp2 := by simpa using e
                obtain ⟨lcp, lbl, gl, hcp, q0, q1, q2⟩ := (HWD5.out.mod hM.out (by simp; have := Hob.out; have := Hlb.out; omega) (by simp; have := Hob.out; have := HGW.out; omega)).at (j + 1) x (by simpa using hx)
                have HREAD := hid hread
                have HLAT := hid hlater
                have HX := hid hx
                simp only [List.length_cons] at q0 hcp
                have hsf := fun (f : Nat) (a : Addr) (c : Array Value) (w : World) => run_store Tryz.prog w a (.func (.func f) #[] c) .plain rfl
                have hj0 : (0 : Int) ≤ (j : Int) := by omega
                have hj1 : (j : Int) < (r.pl.length : Int) := by omega
                have hj2 : (j : Int) + 1 < (l.length : Int) + 1 := by have := Hlen.out; omega
                have hj3 : j + 1 < l.length + 1 := by have := Hlen.out; omega
                have hcp2 : j < cap := by omega
                clear e hread hprint en2 hlater hp hx hA
                go_wp2_with fail
                obtain ⟨X, hX⟩ : ∃ X, X = wr.alloc (.cells #[.func (.func k1) #[] cp1, .func (.func k2) #[] cp2] 99) := ⟨_, rfl⟩
                obtain ⟨pb, hpb⟩ : ∃ pb, pb = wr.heap.size := ⟨_, rfl⟩
                rw [← hX, ← hpb]
                have hmX : Mod [] wr X := by rw [hX]; exact (Mod.refl [] wr).alloc _
                have HPB : Hid (Blk X pb #[.func (.func k1) #[] cp1, .func (.func k2) #[] cp2] 99) := by rw [hX, hpb]; exact Blk.new _ _ _
                have HWX := hid ((HWD5.out.mod hM.out (by simp; have := Hob.out; have := Hlb.out; omega) (by simp; have := Hob.out; have := HGW.out; omega)).mod hmX (by simp) (by simp))
                have HBX := hid (hmX.blk hB.out (by simp))
                have HMX := hid (hM.out.trans hmX (fun _ h _ => h) (fun _ h _ => by cases h) (m := [ob]))
                have HRX : Hid (∀ (W : World), Mod [ob] X W → ∀ s, Blk W ob (stA s) 46 → Calls Tryz.prog k1 (#[wdV x, .pointer (some ⟨ob, 0, none⟩)] ++ cp1) W (ReadG ob W ((readP p x s).map stC))) :=
                  fun W hW s hs => HREAD.out W ⟨[ob], hmX.trans hW (fun _ h _ => by cases h) (fun _ h _ => h), fun y hy => .inl (by simp at hy; subst hy; exact HN.out.1)⟩ x s ob HXL.out hs (.inl HN.out.1)
                have hne1 : pb ≠ ob := by rw [hpb]; have := hB.out.lt; omega
                have hne2 : lb ≠ ob := by have := Hob.out; have := Hlb.out; omega
                have hne3 : g ≠ ob := by have := Hob.out; have := HGW.out; omega
                clear HREAD hB hM hX hpb hmX hBl p0 p1 lbl gl q0 q1 q2
                refine wp_region_steps (by rfl) (by kernel_rfl)
                  (fun W => Mod [ob] X W ∧ ∃ s', Blk W ob (stA s') 46 ∧ (s' = sj ∨ readP p x sj = some s'))
                  (fun i v W => match i with
                    | 0 => v = .pointer (some ⟨pb, 0, none⟩)
                    | 1 => v = .func (.func k1) #[] cp1
                    | 2 => ∃ c, l.length + 1 ≤ c ∧ v = .slice (some ⟨g, 0, none⟩) (l.length + 1) c
                    | 3 => v = .int .i64 (j : Int)
                    | 4 => v = .int .i64 ((j : Int) + 1)
                    | 5 => v = .pointer (some ⟨g, (j + 1) * 2, none⟩)
                    | 6 => v = wdV x
                    | 7 => ∃ s', readP p x sj = some s' ∧ Blk W ob (stA s') 46
                    | _ => True) ?h0 ?steps ?fin
                case h0 => exact ⟨(Mod.refl [ob] X).drew, sj, HBX.out.drew, .inl rfl⟩
                case steps =>
                  refine ⟨?s0, ?s1, ?s2, ?s3, ?s4, ?s5, ?s6, ?s7, trivial⟩
                  case s0 =>
                    intro listed a W hR hall K hK
                    have e1 : a.tmps[10]?.getD undef = _ := hR.old' 10 (by rfl)
                    simp only [List.getElem?_toArray, List.getElem?_cons_zero, List.getElem?_cons_succ, Option.getD_some] at e1
                    exact Oper.wp_value (.pointer (some ⟨pb, 0, none⟩)) (by simp [go_sem, e1]) (hK _ _ hR.world rfl (fun _ _ _ h => h))
                  case s1 =>
                    intro listed a W hR hall K hK
                    have e1 : a.tmps[69]?.getD undef = .pointer (some ⟨pb, 0, none⟩) := hR.val 0 rfl rfl (hall ⟨0, .data⟩ (by simp) rfl)
                    have c0 := (hR.world.1.blk HPB.out (by simpa using hne1)).cell 0
                    simp only [List.getElem?_toArray, List.getElem?_cons_zero, List.getElem?_cons_succ] at c0
                    exact Oper.wp_value (.func (.func k1) #[] cp1) (by simp [go_sem, e1, c0]) (hK _ _ hR.world rfl (fun _ _ _ h => h))
                  case s2 =>
                    intro listed a W hR hall K hK
                    have e1 : a.tmps[4]?.getD undef = _ := hR.old' 4 (by rfl)
                    simp only [List.getElem?_toArray, List.getElem?_cons_zero, List.getElem?_cons_succ, Option.getD_some] at e1
                    obtain ⟨c, _, _, hc, c0, _, _⟩ := (HWX.out.mod hR.world.1 (by simpa using hne2) (by simpa using hne3)).at 0 _ rfl
                    simp only [List.length_cons] at hc c0
                    exact Oper.wp_value (.slice (some ⟨g, 0, none⟩) (l.length + 1) c) (by simp [go_sem, e1, c0]) (hK _ _ hR.world ⟨c, hc, rfl⟩ (fun _ _ _ h => h))
                  case s3 =>
                    intro listed a W hR hall K hK
                    have e1 : a.tmps[9]?.getD undef = _ := hR.old' 9 (by rfl)
                    simp only [List.getElem?_toArray, List.getElem?_cons_zero, List.getElem?_cons_succ, Option.getD_some] at e1
                    exact Oper.wp_value (.int .i64 (j : Int)) (by simp [go_sem, e1]) (hK _ _ hR.world rfl (fun _ _ _ h => h))
                  case s4 =>
                    intro listed a W hR hall K hK
                    have e1 : a.tmps[72]?.getD undef = .int .i64 (j : Int) := hR.val 3 rfl rfl (hall ⟨3, .data⟩ (by simp) rfl)
                    have hw : IntKind.i64.wrap ((j : Int) + 1) = (j : Int) + 1 := IntWalk.i64_in _ (by omega)
                    exact Oper.wp_value (.int .i64 ((j : Int) + 1)) (by simp [go_sem, e1, hw]) (hK _ _ hR.world rfl (fun _ _ _ h => h))
                  case s5 =>
                    intro listed a W hR hall K hK
                    obtain ⟨c, hc, e1⟩ : ∃ c, l.length + 1 ≤ c ∧ a.tmps[71]?.getD undef = .slice (some ⟨g, 0, none⟩) (l.length + 1) c := hR.val 2 rfl rfl (hall ⟨2, .data⟩ (by simp) rfl)
                    have e2 : a.tmps[73]?.getD undef = .int .i64 ((j : Int) + 1) := hR.val 4 rfl rfl (hall ⟨4, .data⟩ (by simp) rfl)
                    have g1 : (0 : Int) ≤ (j : Int) + 1 := by omega
                    have g2 : ((j : Int) + 1).toNat = j + 1 := by omega
                    exact Oper.wp_value (.pointer (some ⟨g, (j + 1) * 2, none⟩)) (by simp [go_sem, e1, e2, g1, g2, hj3]; intro h; omega) (hK _ _ hR.world rfl (fun _ _ _ h => h))
                  case s6 =>
                    intro listed a W hR hall K hK
                    have e1 : a.tmps[74]?.getD undef = .pointer (some ⟨g, (j + 1) * 2, none⟩) := hR.val 5 rfl rfl (hall ⟨5, .data⟩ (by simp) rfl)
                    obtain ⟨c, _, _, hc, _, c1, c2⟩ := (HWX.out.mod hR.world.1 (by simpa using hne2) (by simpa using hne3)).at (j + 1) x (by simpa using HX.out)
                    exact Oper.wp_value (wdV x) (by simp [go_sem, e1, c1, c2]) (hK _ _ hR.world rfl (fun _ _ _ h => h))
                  case s7 =>
                    intro listed a W hR hall K hK
                    have e1 : a.tmps[70]?.getD undef = .func (.func k1) #[] cp1 := hR.val 1 rfl rfl (hall ⟨1, .data⟩ (by simp) rfl)
                    have e2 : a.tmps[75]?.getD undef = wdV x := hR.val 6 rfl rfl (hall ⟨6, .data⟩ (by simp) rfl)
                    have e3 : a.tmps[2]?.getD undef = _ := hR.old' 2 (by rfl)
                    simp only [List.getElem?_toArray, List.getElem?_cons_zero, List.getElem?_cons_succ, Option.getD_some] at e3
                    obtain ⟨h1, s', h2, h3⟩ := hR.world
                    have h4 : readP p x s' = readP p x sj := by
                      rcases h3 with rfl | h3
                      · rfl
                      · rw [h3, readP_twice h3]
                    have hdz : a.defers = [] := hR.defers
                    refine Oper.wp_call k1 (#[wdV x, .pointer (some ⟨ob, 0, none⟩)] ++ cp1) (by simp [go_sem, e1, e2, e3, en1]) (HRX.out W h1 s' h2) ?_
                    rintro e W' ⟨hm, he⟩
                    rw [h4] at he
                    cases hn : readP p x sj with
                    | none =>
                      rw [hn] at he
                      obtain rfl := he
                      refine ⟨hdz, ?_, ?_⟩
                      · exact HM5.out.trans (HMX.out.trans (h1.trans hm (m := [ob]) (fun _ h _ => h) (fun _ h _ => h)) (m := [ob]) (fun _ h _ => h) (fun _ h _ => h)) (fun _ h _ => h) (fun y hy hlt => by simp at hy; have := Hob.out; omega)
                      · have : readAll r.pl l (st0 r.kind r.ck) = none := by
                          rw [← HA1.out]
                          simp only [readAll]
                          rw [hn]
                        rw [HL.out, this]
                        rfl
                    | some s'' =>
                      rw [hn] at he
                      obtain ⟨rfl, hbb⟩ := he
                      exact hK _ _ ⟨h1.trans hm (fun _ h _ => h) (fun _ h _ => h), s'', hbb, .inr hn⟩ ⟨s'', hn, hbb⟩ (fun j v hj h => match j, hj, h with
                        | 0, _, h | 1, _, h | 2, _, h | 3, _, h | 4, _, h | 5, _, h | 6, _, h => h
                        | 7, hj, _ => absurd rfl hj
                        | _ + 8, _, h => h)
                case fin =>
                  intro listed a W hR hl
                  obtain ⟨s', hn, hbb⟩ : ∃ s', readP p x sj = some s' ∧ Blk W ob (stA s') 46 := hR.got 7 _ rfl (hl 7 (by decide))
                  have hmW : Mod [ob] X W := hR.world.1
                  have hfr := hR.frame
                  have HBB := hid hbb
                  have HMW := hid (HMX.out.trans hmW (fun _ h _ => h) (fun _ h _ => h) (m := [ob]))
                  have HA2 : Hid (readAll (r.pl.drop (j + 1)) (l.drop (j + 1)) s' = readAll r.pl l (st0 r.kind r.ck)) := by
                    show _ = _
                    rw [← HA1.out]
                    simp only [readAll]
                    rw [hn]
                  clear hR hl hbb hmW hn
                  simp only [List.filterMap_cons, List.filterMap_nil, List.foldl_cons, List.foldl_nil, List.setIfInBounds_toArray, List.set_cons_succ, List.set_cons_zero] at hfr
                  generalize a.tmps.getD 69 undef = v69 at hfr
                  generalize a.tmps.getD 70 undef = v70 at hfr
                  generalize a.tmps.getD 71 undef = v71 at hfr
                  generalize a.tmps.getD 72 undef = v72 at hfr
                  generalize a.tmps.getD 73 undef = v73 at hfr
                  generalize a.tmps.getD 74 undef = v74 at hfr
                  generalize a.tmps.getD 75 undef = v75 at hfr
                  generalize a.tmps.getD 76 undef = v76 at hfr
                  rw [hfr]
                  clear hfr
                  go_wp2
                  go_roundg (gk - 1)
                  case measure => omega
                  case rel => exact ⟨j + 1, s', by go_num, by omega, HA2, HBB, HMW⟩
              · obtain rfl : j = r.pl.length := by omega
                have hA1 : readAll r.pl l (st0 r.kind r.ck) = some sj := by
                  rw [← hA.out, List.drop_length, ← Hlen.out, List.drop_length]
                  rfl
                have HL2 : Hid (lineW (⟨t, false⟩ :: l) true = .ok sj) := by
                  show _ = _
                  rw [HL.out, hA1]
                have HB := hid hB.out
                obtain ⟨o0, o1, o2, o3, o4, o5, o6, o7⟩ := st_cells HB.out
                have of0 := HB.out.free
                have ol := HB.out.lt
                have HMF := hid (HM5.out.trans hM.out (fun _ h _ => h) (fun y hy hlt => by simp at hy; have := Hob.out; omega))
                clear hA1 hA hB hM HL
                go_wp2
                show bodyPost Tryz.prog Tryz.f24 _ _ _ (putSt wr ob sj)
                obtain ⟨W2, hW2⟩ : ∃ W2, W2 = putSt wr ob sj := ⟨_, rfl⟩
                rw [← hW2]
                have hb2 : Blk W2 ob (stA sj) 46 := by rw [hW2]; exact putSt_blk _ HB.out
                have hm2 : Mod [ob] wr W2 := by rw [hW2]; exact putSt_mod _
                obtain ⟨p0, p1, p2, p3, p4, p5, p6, p7⟩ := st_cells hb2
                refine bodyPost_ret (v := .tuple #[stF sj, .bool true]) (by simp [results, Tryz.results24, go_sem, p0, p1, p2, p3, p4, p5, p6, p7]) rfl ⟨HMF.out.trans hm2 (fun _ h _ => h) (fun x hx hlt => by simp at hx; have := Hob.out; omega), ?_⟩
                rw [HL2.out]
          · have HL : Hid (lineW (⟨t, false⟩ :: l) true = .bad 4) := by
              show _ = _
              unfold lineW
              rw [HRA.out]
              simp [hlen]
            have hbq : ((l.length : Int) + 1 == (r.pl.length : Int) + 1) = false := by simp; omega
            have Hbq := hid hbq
            clear hlen hbq
            go_wp2_with fail
            rw [Hbq.out]
            refine (must_no _).mono ?_
            rintro e w4 ⟨rfl, rfl⟩
            refine ⟨rfl, HM3.out.alloc _, ?_⟩
            rw [HL.out]
            rfl
      · have HL : Hid (lineW (⟨t, false⟩ :: l) is = .bad 19) := by
          show _ = _
          unfold lineW
          rw [show rowAt (⟨t, false⟩ :: l) = none from hf]
          rfl
        rw [hi]
        clear hi hf hm
        go_wp2_with fail
        refine ⟨rfl, HM3.out, ?_⟩
        rw [HL.out]
        rfl
end
end Go.Proofs.YtibhkldnimfnkaaGreatDoor
