/- Comparing lists; a key's leaf by the lists; works. -/
import Derived.Test.YthofkkmnngmafaaFV
import Derived.Test.YthofkkmnngmafaaFT
namespace Go.Proofs.Ythofkkmnngmafaa
set_option linter.unusedVariables false
set_option linter.unusedSimpArgs false
set_option linter.unusedSectionVars false
open Go.RowKit

theorem Lx.cell1 {X : Type} {f : X → List Value} {u : X → Value} (hf : ∀ x, f x = [u x]) {w : World} {a : Option Addr} {n cap : Nat} {l : List X} (h : Lx 1 f w (.slice a n cap) l) {i : Nat} {x : X} (hx : l[i]? = some x) :
    ∃ b off : Nat, a = some ⟨b, off, Option.none⟩ ∧ w.cell? ⟨b, off + i, Option.none⟩ = some (u x) := by
  obtain ⟨b, off, e, hc⟩ := h.at hx
  refine ⟨b, off, e, ?_⟩
  have := hc 0 (u x) (by rw [hf]; rfl)
  simpa using this
theorem same_upto {X : Type} {l m : List X} (hl : l.length = m.length) (h : ∀ j, j < l.length → l[j]? = m[j]?) : l = m := by
  apply List.ext_getElem?
  intro j
  rcases Nat.lt_or_ge j l.length with hj | hj
  · exact h j hj
  · rw [List.getElem?_eq_none hj, List.getElem?_eq_none (by omega)]
set_option maxRecDepth 100000 in
set_option maxHeartbeats 2000000 in
theorem texts_c (w : World) (a b : Value) (l m : List ByteArray) (ha : Lx 1 stC w a l) (hb : Lx 1 stC w b m) :
    Calls Try.prog 22 #[a, b] w fun e w' => e = .returned (.bool (decide (l = m))) ∧ Mod [] w w' := by
  have HA := hid ha
  have HB := hid hb
  have hl1 := ha.choose_spec.choose_spec.2.2
  have hl2 := hb.choose_spec.choose_spec.2.2
  obtain ⟨pa, ca, rfl, _, _⟩ := ha
  obtain ⟨pb, cb, rfl, _, _⟩ := hb
  by_cases hlen : l.length = m.length
  · rw [← hlen] at HB ⊢
    rw [← hlen] at hl2
    go_enter Try.func22, Try.ntmps22
    go_wp2
    go_loopg [5] l.length (fun g i wr => ∃ j : Nat, i = .int .i64 j ∧ j + g = l.length ∧ Hid (∀ j', j' < j → l[j']? = m[j']?) ∧ Hid (Mod [] w wr))
    · exact ⟨0, rfl, by omega, hid (by intro j' h; omega), Mod.refl _ _⟩
    · obtain ⟨j, rfl, hj, hA, hM⟩ := hrel
      by_cases hlt : j < l.length
      · obtain ⟨x, hx⟩ : ∃ x, l[j]? = some x := ⟨_, List.getElem?_eq_getElem hlt⟩
        obtain ⟨y, hy⟩ : ∃ y, m[j]? = some y := ⟨_, List.getElem?_eq_getElem (by omega)⟩
        obtain ⟨ba, oa, rfl, c1⟩ := (HA.out.mod hM.out).cell1 (u := fun s => .string s) (fun _ => rfl) hx
        obtain ⟨bb, ob, rfl, c2⟩ := (HB.out.mod hM.out).cell1 (u := fun s => .string s) (fun _ => rfl) hy
        have Hx := hid (And.intro hx hy)
        have hi1 : (j : Int) < (l.length : Int) := by omega
        have hi0 : (0 : Int) ≤ (j : Int) := by omega
        clear hx hy
        by_cases hxy : x = y
        · have hz0 : ((l.length : Nat) : Int) = ((m.length : Nat) : Int) := by omega
          have hb1 : (x.toList == y.toList) = true := by subst hxy; simp
          have HE := hid hxy
          clear hxy
          go_wp2
          go_quiet (fail)
          go_wp2
          go_roundg (gk - 1)
          case measure => omega
          case rel => exact ⟨j + 1, by go_num, by omega, hid (by
            intro j' h
            rcases (by omega : j' < j ∨ j' = j) with h | rfl
            · exact hA.out j' h
            · rw [Hx.out.1, Hx.out.2, HE.out]), (by first | exact hM.out.drewN _ | exact hM.out.drew | exact hM.out)⟩
        · have hb1 : (x.toList == y.toList) = false := eqS_no hxy
          have HE := hid hxy
          clear hxy
          go_wp2
          go_quiet (fail)
          go_wp2
          go_ret
          refine ⟨?_, (by first | exact hM.out.drewN _ | exact hM.out.drew | exact hM.out)⟩
          refine ret_bool (decide_eq_false fun e => HE.out ?_).symm
          have h1 := Hx.out.1
          rw [e, Hx.out.2] at h1
          exact (Option.some.inj h1).symm
      · have hi1 : ¬ (j : Int) < (l.length : Int) := by omega
        go_wp2
        go_ret
        exact ⟨ret_bool (decide_eq_true (same_upto hlen (fun j' h => hA.out j' (by omega)))).symm, hM.out⟩
  · have h1 : ¬ ((l.length : Nat) : Int) = ((m.length : Nat) : Int) := by omega
    have h2 : (((l.length : Nat) : Int) == ((m.length : Nat) : Int)) = false := beq_eq_false_iff_ne.2 h1
    go_enter Try.func22, Try.ntmps22
    go_wp2
    go_ret
    exact ⟨ret_bool (decide_eq_false fun e => hlen (by rw [e])).symm, Mod.refl _ _⟩
set_option maxRecDepth 100000 in
set_option maxHeartbeats 2000000 in
theorem lpids_c (w : World) (a b : Value) (l m : List Nat) (ha : Lx 1 idC w a l) (hb : Lx 1 idC w b m) :
    Calls Try.prog 23 #[a, b] w fun e w' => e = .returned (.bool (decide (l = m))) ∧ Mod [] w w' := by
  have HA := hid ha
  have HB := hid hb
  have hl1 := ha.choose_spec.choose_spec.2.2
  have hl2 := hb.choose_spec.choose_spec.2.2
  obtain ⟨pa, ca, rfl, _, _⟩ := ha
  obtain ⟨pb, cb, rfl, _, _⟩ := hb
  by_cases hlen : l.length = m.length
  · rw [← hlen] at HB ⊢
    rw [← hlen] at hl2
    go_enter Try.func23, Try.ntmps23
    go_wp2
    go_loopg [5] l.length (fun g i wr => ∃ j : Nat, i = .int .i64 j ∧ j + g = l.length ∧ Hid (∀ j', j' < j → l[j']? = m[j']?) ∧ Hid (Mod [] w wr))
    · exact ⟨0, rfl, by omega, hid (by intro j' h; omega), Mod.refl _ _⟩
    · obtain ⟨j, rfl, hj, hA, hM⟩ := hrel
      by_cases hlt : j < l.length
      · obtain ⟨x, hx⟩ : ∃ x, l[j]? = some x := ⟨_, List.getElem?_eq_getElem hlt⟩
        obtain ⟨y, hy⟩ : ∃ y, m[j]? = some y := ⟨_, List.getElem?_eq_getElem (by omega)⟩
        obtain ⟨ba, oa, rfl, c1⟩ := (HA.out.mod hM.out).cell1 (u := fun p => .int .u64 (p : Nat)) (fun _ => rfl) hx
        obtain ⟨bb, ob, rfl, c2⟩ := (HB.out.mod hM.out).cell1 (u := fun p => .int .u64 (p : Nat)) (fun _ => rfl) hy
        have Hx := hid (And.intro hx hy)
        have hi1 : (j : Int) < (l.length : Int) := by omega
        have hi0 : (0 : Int) ≤ (j : Int) := by omega
        clear hx hy
        by_cases hxy : x = y
        · have hz0 : ((l.length : Nat) : Int) = ((m.length : Nat) : Int) := by omega
          have hb1 : ((x : Int) == (y : Int)) = true := by subst hxy; simp
          have HE := hid hxy
          clear hxy
          go_wp2
          go_quiet (fail)
          go_wp2
          go_roundg (gk - 1)
          case measure => omega
          case rel => exact ⟨j + 1, by go_num, by omega, hid (by
            intro j' h
            rcases (by omega : j' < j ∨ j' = j) with h | rfl
            · exact hA.out j' h
            · rw [Hx.out.1, Hx.out.2, HE.out]), (by first | exact hM.out.drewN _ | exact hM.out.drew | exact hM.out)⟩
        · have hb1 : ((x : Int) == (y : Int)) = false := beq_eq_false_iff_ne.2 (by omega)
          have HE := hid hxy
          clear hxy
          go_wp2
          go_quiet (fail)
          go_wp2
          go_ret
          refine ⟨?_, (by first | exact hM.out.drewN _ | exact hM.out.drew | exact hM.out)⟩
          refine ret_bool (decide_eq_false fun e => HE.out ?_).symm
          have h1 := Hx.out.1
          rw [e, Hx.out.2] at h1
          exact (Option.some.inj h1).symm
      · have hi1 : ¬ (j : Int) < (l.length : Int) := by omega
        go_wp2
        go_ret
        exact ⟨ret_bool (decide_eq_true (same_upto hlen (fun j' h => hA.out j' (by omega)))).symm, hM.out⟩
  · have h1 : ¬ ((l.length : Nat) : Int) = ((m.length : Nat) : Int) := by omega
    have h2 : (((l.length : Nat) : Int) == ((m.length : Nat) : Int)) = false := beq_eq_false_iff_ne.2 h1
    go_enter Try.func23, Try.ntmps23
    go_wp2
    go_ret
    exact ⟨ret_bool (decide_eq_false fun e => hlen (by rw [e])).symm, Mod.refl _ _⟩

/-- The place that leaf finds. -/
def IsLeaf (l : List ByteArray) (k : ByteArray) (n : Nat) : Prop := n ≤ l.length ∧ (∀ j s, n ≤ j → l[j]? = some s → SL k s) ∧ ∀ m s, n = m + 1 → l[m]? = some s → ¬ SL k s
set_option maxRecDepth 100000 in
set_option maxHeartbeats 2000000 in
theorem leaf_c (w : World) (a b : Value) (l : List ByteArray) (m : List Nat) (k : ByteArray) (ha : Lx 1 stC w a l) (hb : Lx 1 idC w b m) (hlm : m.length = l.length + 1) (hl : l.length ≤ 1000) :
    Calls Try.prog 16 #[a, b, .string k] w fun e w' => (∃ n p, e = .returned (.int .u64 (p : Nat)) ∧ m[n]? = some p ∧ IsLeaf l k n) ∧ Mod [] w w' := by
  have HA := hid ha
  have HB := hid hb
  obtain ⟨pa, ca, rfl, _, _⟩ := ha
  obtain ⟨pb, cb, rfl, _, _⟩ := hb
  go_enter Try.func16, Try.ntmps16
  go_wp2
  go_loopg [7, 8] l.length (fun g n i wr => ∃ j n' : Nat, i = .int .i64 j ∧ n = .int .i64 n' ∧ j + g = l.length ∧ Hid (n' ≤ j ∧ (∀ j' s, n' ≤ j' → j' < j → l[j']? = some s → SL k s) ∧ ∀ m' s, n' = m' + 1 → l[m']? = some s → ¬ SL k s) ∧ Hid (Mod [] w wr))
  · exact ⟨0, 0, rfl, rfl, by omega, ⟨by omega, by intro j' s _ h; omega, by intro m' s h; omega⟩, Mod.refl _ _⟩
  · obtain ⟨j, n, rfl, rfl, hj, hA, hM⟩ := hrel
    by_cases hlt : j < l.length
    · obtain ⟨x, hx⟩ : ∃ x, l[j]? = some x := ⟨_, List.getElem?_eq_getElem hlt⟩
      obtain ⟨ba, oa, rfl, c1⟩ := (HA.out.mod hM.out).cell1 (u := fun s => .string s) (fun _ => rfl) hx
      have Hx := hid hx
      have hi1 : (j : Int) < (l.length : Int) := by omega
      have hi0 : (0 : Int) ≤ (j : Int) := by omega
      clear hx
      by_cases hls : SL k x
      · have hne : x ≠ k := fun e => by rw [e] at hls; exact SL_irrefl _ hls
        have hb1 : (x.toList == k.toList) = false := eqS_no hne
        have hb3 : ¬ x.toList = k.toList := by simpa using hb1
        have hb2 : Op.bytesLess x.toList k.toList = false := blS_no (SL_asymm hls)
        have HE := hid hls
        clear hls hne
        go_wp2
        go_roundg (gk - 1)
        case measure => omega
        case rel => exact ⟨j + 1, n, by go_num, rfl, by omega, ⟨by have := hA.out.1; omega, fun j' s h1 h2 h3 => by
          rcases (by omega : j' < j ∨ j' = j) with h | rfl
          · exact hA.out.2.1 j' s h1 h h3
          · rw [Hx.out] at h3; cases h3; exact HE.out, hA.out.2.2⟩, hM.out⟩
      · have HE := hid hls
        have hor : (Op.bytesLess x.toList k.toList = true) ∨ (x = k) := by
          rcases SL_tri x k with h | h | h
          · exact Or.inl (blS_yes h)
          · exact Or.inr h
          · exact absurd h hls
        clear hls
        rcases hor with hb2 | rfl
        all_goals
          go_wp2
          go_roundg (gk - 1)
          case measure => omega
          case rel => exact ⟨j + 1, j + 1, by go_num, by go_num, by omega, ⟨by omega, fun j' s h1 h2 h3 => by omega, fun m' s h1 h2 => by
            obtain rfl : m' = j := by omega
            rw [Hx.out] at h2; cases h2; exact HE.out⟩, hM.out⟩
    · have hi1 : ¬ (j : Int) < (l.length : Int) := by omega
      have hn : n ≤ l.length := by have := hA.out.1; omega
      obtain ⟨y, hy⟩ : ∃ y, m[n]? = some y := ⟨_, List.getElem?_eq_getElem (by omega)⟩
      obtain ⟨bb, ob, rfl, c2⟩ := (HB.out.mod hM.out).cell1 (u := fun p => .int .u64 (p : Nat)) (fun _ => rfl) hy
      have hn0 : (0 : Int) ≤ (n : Int) := by omega
      have hn1 : (n : Int) < (m.length : Int) := by omega
      have Hy := hid hy
      clear hy
      go_wp2
      go_ret
      exact ⟨⟨n, y, rfl, Hy.out, hn, fun j' s h1 h2 => hA.out.2.1 j' s h1 (by have := (List.getElem?_eq_some_iff.1 h2).1; omega) h2, hA.out.2.2⟩, hM.out⟩
end Go.Proofs.Ythofkkmnngmafaa
