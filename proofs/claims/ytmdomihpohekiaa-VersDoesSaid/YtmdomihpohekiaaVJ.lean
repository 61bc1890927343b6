/- Put: what is seen behind it. No program in sight. -/
import Derived.Test.YtmdomihpohekiaaVH
namespace Go.Proofs.Ytmdomihpohekiaa
set_option linter.unusedVariables false
set_option linter.unusedSimpArgs false
open Go.RowKit

theorem newB_some {l : List Vr} (h : mayB l = true) (hp : l ≠ []) : ∃ (i : Nat) (s : Vr), newB l = some s ∧ l[i]? = some s ∧ i + 1 = l.length := by
  have hl : 0 < l.length := List.length_pos_iff.2 hp
  have hx : l[l.length - 1]? = some (l[l.length - 1]'(by omega)) := List.getElem?_eq_getElem (by omega)
  refine ⟨l.length - 1, _, ?_, hx, by omega⟩
  unfold newB seenB
  rw [if_pos h]
  refine (last_iff _ _ _).2 ⟨l.length - 1, hx, rfl, fun j y hj hy => ?_⟩
  have := (List.getElem?_eq_some_iff.1 hy).1
  omega
theorem newB_nil : newB [] = none := rfl
/-- No time of the list is later than v's. -/
theorem new_le {l : List Vr} (h : mayB l = true) {t : Nat} (hn : ¬ ((newB l).isSome ∧ t < ((newB l).getD v0).ts)) : ∀ (i : Nat) (x : Vr), l[i]? = some x → x.ts ≤ t := by
  intro i x hx
  have hil := (List.getElem?_eq_some_iff.1 hx).1
  obtain ⟨k, s, h1, h2, h3⟩ := newB_some h (by rintro rfl; simp at hx)
  rw [h1] at hn
  simp at hn
  rcases Nat.lt_or_ge i k with hik | hik
  · have := may_lt' h hik hx h2; omega
  · obtain rfl : i = k := by omega
    rw [hx] at h2; cases h2; exact hn
theorem putE_ok {l : List Vr} {v : Vr} (h : mayB l = true) (hd : v.dl = true → v.vl.toList.isEmpty = true) (hs : v.vl.size ≤ 24) :
    putE l v = if (newB l).isSome ∧ v.ts < ((newB l).getD v0).ts then 14 else 0 := by
  unfold putE
  have hb : badB l v = false := by
    unfold badB
    rw [h]
    cases hdl : v.dl
    · rfl
    · simp [hd hdl]
  rw [hb, if_neg (by simp), if_neg (by omega)]
theorem keep_may {l : List Vr} (h : mayB l = true) (t : Nat) (hle : ∀ (i : Nat) (x : Vr), l[i]? = some x → x.ts ≤ t) (v : Vr) (hv : v.ts = t) : mayB (keepB (tsP t) l ++ [v]) = true := by
  rw [mayB_iff]
  have hK : ∀ (i j : Nat) (x y : Vr), i < j → (keepB (tsP t) l)[i]? = some x → (keepB (tsP t) l)[j]? = some y → x.ts < y.ts := by
    have hp : l.Pairwise fun x y => x.ts < y.ts := by
      rw [List.pairwise_iff_getElem]
      intro i j hi hj hij
      exact may_lt' h hij (List.getElem?_eq_getElem hi) (List.getElem?_eq_getElem hj)
    have hp2 : (keepB (tsP t) l).Pairwise fun x y => x.ts < y.ts := hp.filter _
    intro i j x y hij hx hy
    obtain ⟨hi, rfl⟩ := List.getElem?_eq_some_iff.1 hx
    obtain ⟨hj, rfl⟩ := List.getElem?_eq_some_iff.1 hy
    exact (List.pairwise_iff_getElem.1 hp2) i j hi hj hij
  intro i hi
  simp at hi
  rcases Nat.lt_or_ge (i + 1) (keepB (tsP t) l).length with hlt | hge
  · have h1 : (keepB (tsP t) l ++ [v])[i]? = some (keepB (tsP t) l)[i] := by rw [List.getElem?_append_left (by omega)]; exact List.getElem?_eq_getElem _
    have h2 : (keepB (tsP t) l ++ [v])[i + 1]? = some (keepB (tsP t) l)[i + 1] := by rw [List.getElem?_append_left hlt]; exact List.getElem?_eq_getElem _
    rw [tsA_at h1, tsA_at h2]
    exact hK i (i + 1) _ _ (by omega) (List.getElem?_eq_getElem _) (List.getElem?_eq_getElem _)
  · have hi2 : i < (keepB (tsP t) l).length := by omega
    have h1 : (keepB (tsP t) l ++ [v])[i]? = some (keepB (tsP t) l)[i] := by rw [List.getElem?_append_left hi2]; exact List.getElem?_eq_getElem _
    have h2 : (keepB (tsP t) l ++ [v])[i + 1]? = some v := by
      rw [List.getElem?_append_right hge, show i + 1 - (keepB (tsP t) l).length = 0 by omega]; rfl
    rw [tsA_at h1, tsA_at h2, hv]
    have hm : (keepB (tsP t) l)[i] ∈ keepB (tsP t) l := List.getElem_mem hi2
    unfold keepB at hm
    rw [List.mem_filter] at hm
    obtain ⟨j, hj⟩ := List.getElem?_of_mem hm.1
    have := hle j _ hj
    have h3 := hm.2
    simp only [tsP, Bool.not_eq_true', decide_eq_false_iff_not] at h3
    exact Nat.lt_of_le_of_ne this (of_decide_eq_false h3)

/-- What is seen of the list behind a Put that was taken. -/
theorem put_sees_new {l : List Vr} {v : Vr} {t : Nat} (h : mayB l = true) (hle : ∀ (i : Nat) (x : Vr), l[i]? = some x → x.ts ≤ v.ts) (ht : v.ts ≤ t) : seenB (visP t) (withoutB (tsP v.ts) l ++ [v]) = some v := by
  have hw : withoutB (tsP v.ts) l = keepB (tsP v.ts) l := by unfold withoutB; rw [if_pos h]
  rw [hw]
  unfold seenB
  rw [if_pos (keep_may h v.ts hle v rfl)]
  unfold lastB
  simp [visP, ht]
theorem put_sees_old {l : List Vr} {v : Vr} {t : Nat} (h : mayB l = true) (hle : ∀ (i : Nat) (x : Vr), l[i]? = some x → x.ts ≤ v.ts) (ht : t < v.ts) : seenB (visP t) (withoutB (tsP v.ts) l ++ [v]) = seenB (visP t) l := by
  have hw : withoutB (tsP v.ts) l = keepB (tsP v.ts) l := by unfold withoutB; rw [if_pos h]
  rw [hw]
  unfold seenB
  rw [if_pos (keep_may h v.ts hle v rfl), if_pos h]
  unfold lastB
  rw [List.reverse_append]
  have hv : visP t v = false := by simp [visP]; omega
  simp only [List.reverse_cons, List.reverse_nil, List.nil_append, List.cons_append, List.find?_cons, hv]
  unfold keepB
  rw [← List.filter_reverse, List.find?_filter]
  congr 1
  funext x
  simp only [visP, tsP]
  by_cases hx : x.ts ≤ t
  · have : ¬ x.ts = v.ts := by omega
    simp [hx, this]
  · simp [hx]
theorem put_cut {l : List Vr} {v : Vr} (h : mayB l = true) (hle : ∀ (i : Nat) (x : Vr), l[i]? = some x → x.ts ≤ v.ts) : withoutB (tsP v.ts) (withoutB (tsP v.ts) l ++ [v]) = withoutB (tsP v.ts) l := by
  have hw : withoutB (tsP v.ts) l = keepB (tsP v.ts) l := by unfold withoutB; rw [if_pos h]
  rw [hw]
  unfold withoutB
  rw [if_pos (keep_may h v.ts hle v rfl)]
  unfold keepB
  rw [List.filter_append, List.filter_filter]
  simp [tsP]

end Go.Proofs.Ytmdomihpohekiaa
