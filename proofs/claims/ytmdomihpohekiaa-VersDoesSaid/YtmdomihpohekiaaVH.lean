/- Marks: what Logged and Acked turn. No program in sight. -/
import Derived.Test.YtmdomihpohekiaaVG
namespace Go.Proofs.Ytmdomihpohekiaa
set_option linter.unusedVariables false
set_option linter.unusedSimpArgs false
open Go.RowKit

theorem may_map {l : List Vr} (f : Vr → Vr) (hf : ∀ x, (f x).ts = x.ts) (h : mayB l = true) : mayB (l.map f) = true := by
  rw [mayB_iff] at h ⊢
  intro i hi
  have e : ∀ j, tsA (l.map f) j = tsA l j := by
    intro j
    unfold tsA
    rw [List.map_map]
    congr 1
    apply List.map_congr_left
    intro x _
    exact hf x
  rw [e, e]
  exact h i (by simpa using hi)
theorem logF_ts (t n : Nat) (x : Vr) : (logF t n x).ts = x.ts := by unfold logF; split <;> rfl
theorem ackF_ts (n : Nat) (q : Bool) (x : Vr) : (ackF n q x).ts = x.ts := by unfold ackF; split <;> rfl
theorem turned_may {l : List Vr} (f : Vr → Vr) (h : mayB l = true) : turnedB f l = l.map f := by unfold turnedB; rw [if_pos h]

theorem log_at {l : List Vr} (h : mayB l = true) {k i : Nat} {s x : Vr} (hs : l[k]? = some s) (hx : l[i]? = some x) (n : Nat) : logF s.ts n x = if i = k then { x with ln := n } else x := by
  unfold logF
  rcases Nat.lt_trichotomy i k with hik | rfl | hik
  · have := may_lt' h hik hx hs
    rw [if_neg (by omega), if_neg (by omega)]
  · rw [hs] at hx; cases hx; rw [if_pos rfl, if_pos rfl]
  · have := may_lt' h hik hs hx
    rw [if_neg (by omega), if_neg (by omega)]
theorem log_back {l : List Vr} (h : mayB l = true) {k : Nat} {s : Vr} (hs : l[k]? = some s) (n : Nat) : (l.map (logF s.ts n)).map (logF s.ts s.ln) = l := by
  rw [List.map_map]
  apply List.ext_getElem?
  intro i
  rw [List.getElem?_map]
  cases hx : l[i]? with
  | none => rfl
  | some x =>
    have h1 := log_at h hs hx n
    simp only [Option.map_some, Function.comp, Option.some.injEq]
    rw [h1]
    by_cases hik : i = k
    · subst hik
      rw [hs] at hx; cases hx
      rw [if_pos rfl]
      simp [logF]
    · rw [if_neg hik, log_at h hs hx s.ln, if_neg hik]
theorem ack_yes (n : Nat) (hn : 0 < n) (x : Vr) (q : Bool) : ackF n q x = if x.ln = n then { x with ak := q } else x := by
  unfold ackF
  by_cases h : x.ln = n
  · rw [if_pos ⟨by omega, Or.inr h⟩, if_pos h]
  · rw [if_neg (by omega), if_neg h]
theorem ack_no (n : Nat) (hn : 0 < n) (x : Vr) : ackF n false (ackF n true x) = if x.ln = n then { x with ak := false } else x := by
  rw [ack_yes n hn x true]
  by_cases h : x.ln = n
  · rw [if_pos h, if_pos h, ack_yes n hn, if_pos h]
  · rw [if_neg h, if_neg h, ack_yes n hn, if_neg h]

end Go.Proofs.Ytmdomihpohekiaa
