/- The reference: Prune. -/
import Derived.Test.YtmdomihpohekiaaVP
namespace Go.Proofs.Ytmdomihpohekiaa
set_option linter.unusedVariables false
set_option linter.unusedSimpArgs false
set_option linter.unusedSectionVars false
open Go.RowKit

/-- f is where the last one of the first k lies, or 0. -/
def FromK (p : Vr → Bool) (l : List Vr) (k f : Nat) : Prop := if mayB l then (f = 0 ∧ ∀ j y, j < k → l[j]? = some y → p y = false) ∨ ∃ x, f < k ∧ l[f]? = some x ∧ p x = true ∧ ∀ j y, f < j → j < k → l[j]? = some y → p y = false else f = 0
theorem FromK.zero (p : Vr → Bool) (l : List Vr) : FromK p l 0 0 := by
  unfold FromK; split
  · exact Or.inl ⟨rfl, by intro j y h; omega⟩
  · rfl
theorem FromK.yes {p : Vr → Bool} {l : List Vr} {k f : Nat} {x : Vr} (hx : l[k]? = some x) (h : mayB l = true) (hp : p x = true) : FromK p l (k + 1) k := by
  unfold FromK; rw [h, if_pos rfl]
  exact Or.inr ⟨x, by omega, hx, hp, by intro j y h1 h2; omega⟩
theorem FromK.no {p : Vr → Bool} {l : List Vr} {k f : Nat} {x : Vr} (hf : FromK p l k f) (hx : l[k]? = some x) (hp : p x = false) : FromK p l (k + 1) f := by
  unfold FromK at hf ⊢
  split
  · rename_i h
    rw [if_pos h] at hf
    rcases hf with ⟨h0, hA⟩ | ⟨y, h1, h2, h3, hA⟩
    · refine Or.inl ⟨h0, fun j z hj hz => ?_⟩
      rcases (by omega : j < k ∨ j = k) with hj | rfl
      · exact hA j z hj hz
      · rw [hx] at hz; cases hz; exact hp
    · refine Or.inr ⟨y, by omega, h2, h3, fun j z hj hj2 hz => ?_⟩
      rcases (by omega : j < k ∨ j = k) with hj' | rfl
      · exact hA j z hj hj' hz
      · rw [hx] at hz; cases hz; exact hp
  · rename_i h
    rw [if_neg h] at hf
    exact hf
theorem FromK.all {t : Nat} {l : List Vr} {f : Nat} (hf : FromK (logP t) l l.length f) : pruneB t l = l.drop f := by
  unfold FromK at hf
  split at hf
  · rename_i h
    rcases prune_cases t l h with ⟨e1, e2⟩ | ⟨i, s, h1, h2, h3, e⟩
    · rcases hf with ⟨rfl, _⟩ | ⟨y, h1, h2, h3, _⟩
      · rw [e2]; rfl
      · rw [last_none_iff] at e1
        rw [e1 f y h2] at h3; cases h3
    · rcases hf with ⟨rfl, hA⟩ | ⟨y, k1, k2, k3, hA⟩
      · rw [hA i s (List.getElem?_eq_some_iff.1 h1).1 h1] at h2; cases h2
      · rw [e]
        have : i = f := by
          rcases Nat.lt_trichotomy i f with h | h | h
          · rw [h3 f y h k2] at k3; cases k3
          · exact h
          · rw [hA i s h (List.getElem?_eq_some_iff.1 h1).1 h1] at h2; cases h2
        rw [this]
  · rename_i h
    subst hf
    simp [pruneB, withoutB, h]
theorem FromK.not {t : Nat} {l : List Vr} {k f : Nat} (hf : FromK (logP t) l k f) (h : mayB l = false) : pruneB t l = l.drop f := by
  unfold FromK at hf
  rw [h] at hf
  simp at hf
  subst hf
  simp [pruneB, withoutB, h]

theorem Lv.sub5 {w : World} {b off n cap k : Nat} {l P : List Vr} (h : Lv w (.slice (some ⟨b, off, Option.none⟩) n cap) l) (hk : k ≤ n) (hP : P = l.drop k) (n' c' : Nat) (hn : n' = n - k) : Lv w (.slice (some ⟨b, off + k * 5, Option.none⟩) n' c') P := by
  have h2 := h.sub hk hP n' c' hn
  have e : (Addr.add ⟨b, off, Option.none⟩ (k * 5)) = ⟨b, off + k * 5, Option.none⟩ := by
    unfold Addr.add
    split <;> simp_all
  rw [Option.map_some, e] at h2
  exact h2

set_option maxRecDepth 100000 in
set_option maxHeartbeats 4000000 in
theorem rprune_c (w : World) (v : Value) (l : List Vr) (t : Nat) (h : Lv w v l) (hc : ∃ a cap, v = .slice a l.length cap ∧ l.length ≤ cap) (hl : l.length ≤ 1000000) :
    Calls Try.prog 24 #[v, .int .u64 t] w (OwnSays w (pruneB t l)) := by
  have H := hid h
  obtain ⟨a, cap, rfl, _, hlen⟩ := h
  obtain ⟨a', cap', e', hc⟩ := hc
  simp only [Value.slice.injEq, true_and] at e'
  obtain ⟨rfl, rfl⟩ := e'
  go_enter Try.func24, Try.ntmps24
  go_wp2
  go_loopg [5, 6] l.length (fun g q i wr => ∃ (k f : Nat), q = .int .i64 f ∧ i = .int .i64 k ∧ k + g = l.length ∧ f ≤ k ∧ Hid (FromK (logP t) l k f) ∧ Hid (Mod [] w wr))
  · exact ⟨0, 0, rfl, rfl, by omega, by omega, FromK.zero _ _, Mod.refl _ _⟩
  · obtain ⟨k, f, rfl, rfl, hk, hfk, hF, hM⟩ := hrel
    by_cases hlt : k < l.length
    · obtain ⟨x, hx⟩ : ∃ x, l[k]? = some x := ⟨_, List.getElem?_eq_getElem hlt⟩
      have Hx := hid hx
      clear hx
      have hki : (k : Int) < (l.length : Int) := by omega
      go_wp2_with fail
      refine (rmay_c _ _ l (H.out.mod hM.out)).mono ?_
      rintro e w2 ⟨rfl, hm⟩
      have hM2 := hid (hM.out.tr hm)
      obtain ⟨b, off, rfl, c0, c1, c2, c3, c4⟩ := (H.out.mod hM2.out).at Hx.out
      clear hm
      cases hmay : mayB l
      · have hP := hid (hF.out.not hmay)
        clear hmay
        go_wp2_with fail
        all_goals
          have hdl : Hid ((pruneB t l).length ≤ 1000000) := by show _ ≤ _; rw [hP.out, List.length_drop]; omega
          refine (rcopied_c _ _ (pruneB t l) (by
            first
              | omega
              | exact (H.out.mod hM2.out).sub5 (by omega) hP.out _ _ rfl) hdl.out).mono ?_
          rintro e w3 hs
          have Hs := hid (hs.tr hM2.out)
          obtain ⟨v3, L3, rfl, _⟩ := hs
          go_wp2
          go_ret
          exact Hs.out
      · by_cases h1 : x.ts ≤ t
        · by_cases h2 : 0 < x.ln
          · have hN : Hid (FromK (logP t) l (k + 1) k) := FromK.yes (f := k) Hx.out hmay (by simp [logP, h1, h2])
            clear hmay
            go_wp2
            go_roundg (gk - 1)
            case measure => omega
            case rel => exact ⟨k + 1, k, rfl, by go_num, by omega, by omega, hN, hM2⟩
          · have hN : Hid (FromK (logP t) l (k + 1) f) := hF.out.no Hx.out (by simp [logP]; omega)
            clear hmay
            go_wp2
            go_roundg (gk - 1)
            case measure => omega
            case rel => exact ⟨k + 1, f, rfl, by go_num, by omega, by omega, hN, hM2⟩
        · have hN : Hid (FromK (logP t) l (k + 1) f) := hF.out.no Hx.out (by simp [logP]; omega)
          clear hmay
          go_wp2
          go_roundg (gk - 1)
          case measure => omega
          case rel => exact ⟨k + 1, f, rfl, by go_num, by omega, by omega, hN, hM2⟩
    · obtain rfl : k = l.length := by omega
      have hP := hid hF.out.all
      go_wp2_with fail
      all_goals
        have hdl : Hid ((pruneB t l).length ≤ 1000000) := by show _ ≤ _; rw [hP.out, List.length_drop]; omega
        refine (rcopied_c _ _ (pruneB t l) (by
          first
            | exact (H.out.mod hM.out).sub (k := f) (by omega) hP.out _ _ rfl
            | exact Lv.none _ _ _ (by rw [hP.out, List.length_drop]; omega) (by omega)
            | omega) hdl.out).mono ?_
        rintro e w3 hs
        have Hs := hid (hs.tr hM.out)
        obtain ⟨v3, L3, rfl, _⟩ := hs
        go_wp2
        go_ret
        exact Hs.out

end Go.Proofs.Ytmdomihpohekiaa
