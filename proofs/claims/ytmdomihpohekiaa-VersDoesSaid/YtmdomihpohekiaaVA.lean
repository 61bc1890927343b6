/- Logged, Acked. -/
import Derived.Test.YtmdomihpohekiaaV9
namespace Go.Proofs.Ytmdomihpohekiaa
set_option linter.unusedVariables false
set_option linter.unusedSimpArgs false
set_option linter.unusedSectionVars false
open Go.RowKit

def logF (t n : Nat) (x : Vr) : Vr := if x.ts = t then { x with ln := n } else x
def ackF (n : Nat) (q : Bool) (x : Vr) : Vr := if 0 < x.ln ∧ (n = 0 ∨ x.ln = n) then { x with ak := q } else x

theorem RowAt.set1 {w : World} {g cap : Nat} {ls : List Vr} (h : RowAt w g cap ls) (i : Nat) (x : Vr) (n : Nat) (hx : ls[i]? = some x) :
    RowAt (w.setCell ⟨g, i * 5 + 1, none⟩ (.int .u64 n)) g cap (ls.set i { x with ln := n }) := by
  obtain ⟨cur, h1, h2, h3⟩ := h
  have hi := (List.getElem?_eq_some_iff.1 hx).1
  refine ⟨_, h1.set (i * 5 + 1) _, by simpa using h2, ?_⟩
  rw [List.length_set, Array.toList_setIfInBounds, List.take_set, h3]
  apply List.ext_getElem?
  intro j
  rw [List.getElem?_set]
  rcases Nat.lt_or_ge j (ls.length * 5) with hj | hj
  · obtain ⟨y, hy⟩ : ∃ y, ls[j / 5]? = some y := ⟨_, List.getElem?_eq_getElem (by omega)⟩
    have e1 := vsC_at ls (j / 5) _ hy (j % 5) (by omega)
    rw [show j / 5 * 5 + j % 5 = j by omega] at e1
    by_cases hji : j / 5 = i
    · have hy2 : (ls.set i { x with ln := n })[j / 5]? = some { x with ln := n } := by rw [hji, List.getElem?_set_self hi]
      have e2 := vsC_at _ (j / 5) _ hy2 (j % 5) (by omega)
      rw [show j / 5 * 5 + j % 5 = j by omega] at e2
      rw [e2, e1]
      have hyx : y = x := by
        rw [hji, hx] at hy; cases hy; rfl
      rw [hyx]
      rcases (by omega : j % 5 = 0 ∨ j % 5 = 1 ∨ j % 5 = 2 ∨ j % 5 = 3 ∨ j % 5 = 4) with h | h | h | h | h <;> rw [h]
      · rw [if_neg (by omega)]; rfl
      · rw [if_pos (by omega), if_pos (by rw [vsC_len]; omega)]; rfl
      · rw [if_neg (by omega)]; rfl
      · rw [if_neg (by omega)]; rfl
      · rw [if_neg (by omega)]; rfl
    · have hy2 : (ls.set i { x with ln := n })[j / 5]? = some y := by rw [List.getElem?_set_ne (by omega)]; exact hy
      have e2 := vsC_at _ (j / 5) _ hy2 (j % 5) (by omega)
      rw [show j / 5 * 5 + j % 5 = j by omega] at e2
      rw [if_neg (by omega), e1, e2]
  · rw [if_neg (by omega), List.getElem?_eq_none (by rw [vsC_len]; omega), List.getElem?_eq_none (by rw [vsC_len, List.length_set]; omega)]
theorem RowAt.set4 {w : World} {g cap : Nat} {ls : List Vr} (h : RowAt w g cap ls) (i : Nat) (x : Vr) (q : Bool) (hx : ls[i]? = some x) :
    RowAt (w.setCell ⟨g, i * 5 + 4, none⟩ (.bool q)) g cap (ls.set i { x with ak := q }) := by
  obtain ⟨cur, h1, h2, h3⟩ := h
  have hi := (List.getElem?_eq_some_iff.1 hx).1
  refine ⟨_, h1.set (i * 5 + 4) _, by simpa using h2, ?_⟩
  rw [List.length_set, Array.toList_setIfInBounds, List.take_set, h3]
  apply List.ext_getElem?
  intro j
  rw [List.getElem?_set]
  rcases Nat.lt_or_ge j (ls.length * 5) with hj | hj
  · obtain ⟨y, hy⟩ : ∃ y, ls[j / 5]? = some y := ⟨_, List.getElem?_eq_getElem (by omega)⟩
    have e1 := vsC_at ls (j / 5) _ hy (j % 5) (by omega)
    rw [show j / 5 * 5 + j % 5 = j by omega] at e1
    by_cases hji : j / 5 = i
    · have hy2 : (ls.set i { x with ak := q })[j / 5]? = some { x with ak := q } := by rw [hji, List.getElem?_set_self hi]
      have e2 := vsC_at _ (j / 5) _ hy2 (j % 5) (by omega)
      rw [show j / 5 * 5 + j % 5 = j by omega] at e2
      rw [e2, e1]
      have hyx : y = x := by
        rw [hji, hx] at hy; cases hy; rfl
      rw [hyx]
      rcases (by omega : j % 5 = 0 ∨ j % 5 = 1 ∨ j % 5 = 2 ∨ j % 5 = 3 ∨ j % 5 = 4) with h | h | h | h | h <;> rw [h]
      · rw [if_neg (by omega)]; rfl
      · rw [if_neg (by omega)]; rfl
      · rw [if_neg (by omega)]; rfl
      · rw [if_neg (by omega)]; rfl
      · rw [if_pos (by omega), if_pos (by rw [vsC_len]; omega)]; rfl
    · have hy2 : (ls.set i { x with ak := q })[j / 5]? = some y := by rw [List.getElem?_set_ne (by omega)]; exact hy
      have e2 := vsC_at _ (j / 5) _ hy2 (j % 5) (by omega)
      rw [show j / 5 * 5 + j % 5 = j by omega] at e2
      rw [if_neg (by omega), e1, e2]
  · rw [if_neg (by omega), List.getElem?_eq_none (by rw [vsC_len]; omega), List.getElem?_eq_none (by rw [vsC_len, List.length_set]; omega)]
theorem set_same (ls : List Vr) (i : Nat) (x : Vr) (hx : ls[i]? = some x) : ls.set i x = ls := by
  obtain ⟨hi, rfl⟩ := List.getElem?_eq_some_iff.1 hx
  exact List.set_getElem_self hi

set_option maxRecDepth 100000 in
theorem log_turns (w : World) (b b' t n : Nat) (h : Blk w b #[.int .u64 t] 23) (h' : Blk w b' #[.int .u64 n] 23) : Turns w 41 #[.pointer (some ⟨b, 0, none⟩), .pointer (some ⟨b', 0, none⟩)] (logF t n) := by
  refine ⟨enters_of Try.func41 (by kernel_rfl) rfl, fun W hW g cap ls i x hg hR hx => ?_⟩
  have c : W.cell? ⟨b, 0, none⟩ = some (.int .u64 t) := (hW.blk h (by simp)).cell 0
  have c' : W.cell? ⟨b', 0, none⟩ = some (.int .u64 n) := (hW.blk h' (by simp)).cell 0
  obtain ⟨x0, x1, x2, x3, x4⟩ := hR.five hx
  obtain ⟨f0, f1, f2, f3, f4⟩ := hR.free5 i
  have hgl := hR.lt
  have HR := hid hR
  have Hx := hid hx
  show Calls Try.prog _ #[.pointer (some ⟨g, i * 5, none⟩), .pointer (some ⟨b, 0, none⟩), .pointer (some ⟨b', 0, none⟩)] _ _
  clear h h' hx hR
  by_cases ht : x.ts = t
  · have hs : Hid (logF t n x = { x with ln := n }) := by show _ = _; simp [logF, ht]
    have ht' : ((x.ts : Int) == (t : Int)) = true := by simp; omega
    clear ht
    go_enter Try.func41, Try.ntmps41
    go_upto_region 0 with (fail)
    go_quiet (fail)
    go_wp2
    go_end0
    rw [hs.out]
    exact ⟨rfl, (HR.out.mod (M := []) ((Mod.refl [] W).drewN _) (by simp)).set1 i x n Hx.out, ((Mod.refl [g] W).drewN _).setCell (by simp) _⟩
  · have hs : Hid (logF t n x = x) := by show _ = _; simp [logF, ht]
    have ht' : ((x.ts : Int) == (t : Int)) = false := by simp; omega
    clear ht
    go_enter Try.func41, Try.ntmps41
    go_upto_region 0 with (fail)
    go_quiet (fail)
    go_wp2
    go_end0
    rw [hs.out, set_same ls i x Hx.out]
    exact ⟨rfl, HR.out.mod (M := []) ((Mod.refl [] W).drewN _) (by simp), (Mod.refl [g] W).drewN _⟩

set_option maxRecDepth 100000 in
theorem ack_turns (w : World) (b b' n : Nat) (q : Bool) (h : Blk w b #[.int .u64 n] 23) (h' : Blk w b' #[.bool q] 4) : Turns w 42 #[.pointer (some ⟨b, 0, none⟩), .pointer (some ⟨b', 0, none⟩)] (ackF n q) := by
  refine ⟨enters_of Try.func42 (by kernel_rfl) rfl, fun W hW g cap ls i x hg hR hx => ?_⟩
  have c : W.cell? ⟨b, 0, none⟩ = some (.int .u64 n) := (hW.blk h (by simp)).cell 0
  have c' : W.cell? ⟨b', 0, none⟩ = some (.bool q) := (hW.blk h' (by simp)).cell 0
  obtain ⟨x0, x1, x2, x3, x4⟩ := hR.five hx
  obtain ⟨f0, f1, f2, f3, f4⟩ := hR.free5 i
  have hgl := hR.lt
  have HR := hid hR
  have Hx := hid hx
  show Calls Try.prog _ #[.pointer (some ⟨g, i * 5, none⟩), .pointer (some ⟨b, 0, none⟩), .pointer (some ⟨b', 0, none⟩)] _ _
  clear h h' hx hR
  have hno : ¬ (0 < x.ln ∧ (n = 0 ∨ x.ln = n)) → Hid (ackF n q x = x) := fun h => by show _ = _; unfold ackF; rw [if_neg h]
  have hyes : (0 < x.ln ∧ (n = 0 ∨ x.ln = n)) → Hid (ackF n q x = { x with ak := q }) := fun h => by show _ = _; unfold ackF; rw [if_pos h]
  by_cases h1 : 0 < x.ln
  · by_cases h2 : n = 0
    · have hs := hyes ⟨h1, Or.inl h2⟩
      have t2 : ((n : Int) == 0) = true := by simp; omega
      clear h2 hyes hno
      go_enter Try.func42, Try.ntmps42
      go_upto_region 0 with (fail)
      go_quiet (fail)
      go_wp2
      go_end0
      rw [hs.out]
      exact ⟨rfl, (HR.out.mod (M := []) ((Mod.refl [] W).drewN _) (by simp)).set4 i x q Hx.out, ((Mod.refl [g] W).drewN _).setCell (by simp) _⟩
    · have t2 : ((n : Int) == 0) = false := by simp; omega
      by_cases h3 : x.ln = n
      · have hs := hyes ⟨h1, Or.inr h3⟩
        have t3 : ((x.ln : Int) == (n : Int)) = true := by simp; omega
        clear h2 h3 hyes hno
        go_enter Try.func42, Try.ntmps42
        go_upto_region 0 with (fail)
        go_quiet (fail)
        go_wp2
        go_end0
        rw [hs.out]
        exact ⟨rfl, (HR.out.mod (M := []) ((Mod.refl [] W).drewN _) (by simp)).set4 i x q Hx.out, ((Mod.refl [g] W).drewN _).setCell (by simp) _⟩
      · have hs := hno (by omega)
        have t3 : ((x.ln : Int) == (n : Int)) = false := by simp; omega
        clear h2 h3 hyes hno
        go_enter Try.func42, Try.ntmps42
        go_upto_region 0 with (fail)
        go_quiet (fail)
        go_wp2
        go_end0
        rw [hs.out, set_same ls i x Hx.out]
        exact ⟨rfl, HR.out.mod (M := []) ((Mod.refl [] W).drewN _) (by simp), (Mod.refl [g] W).drewN _⟩
  · have hs := hno (by omega)
    clear hyes hno
    go_enter Try.func42, Try.ntmps42
    go_upto_region 0 with (fail)
    go_quiet (fail)
    go_wp2
    go_end0
    rw [hs.out, set_same ls i x Hx.out]
    exact ⟨rfl, HR.out.mod (M := []) ((Mod.refl [] W).drewN _) (by simp), (Mod.refl [g] W).drewN _⟩

set_option maxRecDepth 100000 in
set_option maxHeartbeats 1000000 in
theorem logged_c (w : World) (v : Value) (l : List Vr) (t n : Nat) (h : Lv w v l) (hl : l.length ≤ 1000000) :
    Calls Try.prog 19 #[v, .int .u64 t, .int .u64 n] w (OwnSays w (turnedB (logF t n) l)) := by
  have H := hid h
  obtain ⟨a, cap, rfl, _, _⟩ := h
  have b1 := (Blk.new w #[.int .u64 t] 23).alloc (.cells #[.int .u64 n] 23)
  have b2 := Blk.new (w.alloc (.cells #[.int .u64 t] 23)) #[.int .u64 n] 23
  rw [World.size_alloc] at b2
  have hA := hid (log_turns _ _ _ t n b1 b2)
  have hM := hid (((Mod.refl [] w).alloc (.cells #[.int .u64 t] 23)).alloc (.cells #[.int .u64 n] 23))
  clear b1 b2
  go_enter Try.func19, Try.ntmps19
  go_wp2_with fail
  refine (turned_c _ _ l (H.out.mod hM.out) hl _ _ _ hA.out).mono ?_
  rintro e w3 hs
  have Hs := hid (hs.tr hM.out)
  obtain ⟨v3, L3, rfl, _⟩ := hs
  go_wp2
  go_ret
  exact Hs.out

set_option maxRecDepth 100000 in
set_option maxHeartbeats 1000000 in
theorem acked_c (w : World) (v : Value) (l : List Vr) (n : Nat) (q : Bool) (h : Lv w v l) (hl : l.length ≤ 1000000) :
    Calls Try.prog 21 #[v, .int .u64 n, .bool q] w (OwnSays w (turnedB (ackF n q) l)) := by
  have H := hid h
  obtain ⟨a, cap, rfl, _, _⟩ := h
  have b1 := (Blk.new w #[.int .u64 n] 23).alloc (.cells #[.bool q] 4)
  have b2 := Blk.new (w.alloc (.cells #[.int .u64 n] 23)) #[.bool q] 4
  rw [World.size_alloc] at b2
  have hA := hid (ack_turns _ _ _ n q b1 b2)
  have hM := hid (((Mod.refl [] w).alloc (.cells #[.int .u64 n] 23)).alloc (.cells #[.bool q] 4))
  clear b1 b2
  go_enter Try.func21, Try.ntmps21
  go_wp2_with fail
  refine (turned_c _ _ l (H.out.mod hM.out) hl _ _ _ hA.out).mono ?_
  rintro e w3 hs
  have Hs := hid (hs.tr hM.out)
  obtain ⟨v3, L3, rfl, _⟩ := hs
  go_wp2
  go_ret
  exact Hs.out

end Go.Proofs.Ytmdomihpohekiaa
