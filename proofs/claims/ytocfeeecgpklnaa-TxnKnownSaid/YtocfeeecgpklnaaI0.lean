/- A slice that comes in: its elements, and what their cells hold. -/
import Derived.Test.YtocfeeecgpklnaaRows
import Derived.Test.YtocfeeecgpklnaaK1
import Derived.Deep.Slices
import Derived.Deep.Strs
import Derived.ChangeSame
import Derived.ProofKit
namespace Go.Proofs.Ytocfeeecgpklnaa
set_option linter.unusedVariables false
set_option linter.unusedSimpArgs false
set_option linter.unusedSectionVars false
open Go.RowKit Go.ChangeShapes Go.WideShapes Go.Deep

theorem choose_list {α : Type} {p : Nat → α → Prop} : ∀ (n : Nat), (∀ i, i < n → ∃ x, p i x) → ∃ xs : List α, xs.length = n ∧ ∀ i x, xs[i]? = some x → p i x
  | 0, _ => ⟨[], rfl, fun i x h => by simp at h⟩
  | n + 1, h => by
    obtain ⟨xs, hl, hx⟩ := choose_list n (fun i hi => h i (by omega))
    obtain ⟨x, hp⟩ := h n (by omega)
    refine ⟨xs ++ [x], by simp [hl], fun i y hy => ?_⟩
    rcases Nat.lt_or_ge i n with hi | hi
    · rw [List.getElem?_append_left (by omega)] at hy; exact hx i y hy
    · rw [List.getElem?_append_right (by omega)] at hy
      have : i - xs.length = 0 := by
        rcases Nat.eq_zero_or_pos (i - xs.length) with h0 | h0
        · exact h0
        · rw [List.getElem?_eq_none (by simp; omega)] at hy; cases hy
      rw [this] at hy
      simp at hy
      have hin : i = n := by omega
      subst hin; subst hy; exact hp

/-- The elements lie at the slice's address, C cells each. -/
def IsSeq {X : Type} (C : Nat) (cellsX : X → List Value) (w : World) (a : Option Addr) (xs : List X) : Prop :=
  xs = [] ∨ ∃ b off : Nat, a = some ⟨b, off, none⟩ ∧ ∀ (i : Nat) (x : X), xs[i]? = some x → ∀ (j : Nat) (v : Value), (cellsX x)[j]? = some v → w.cell? ⟨b, off + i * C + j, none⟩ = some v

theorem IsSeq.at {X : Type} {C : Nat} {cellsX : X → List Value} {w w' : World} {a : Option Addr} {xs : List X} (h : IsSeq C cellsX w a xs) (hm : Mod [] w w') {i : Nat} {x : X} (hx : xs[i]? = some x) :
    ∃ b off : Nat, a = some ⟨b, off, none⟩ ∧ ∀ (j : Nat) (v : Value), (cellsX x)[j]? = some v → w'.cell? ⟨b, off + i * C + j, none⟩ = some v := by
  rcases h with rfl | ⟨b, off, rfl, h⟩
  · simp at hx
  · exact ⟨b, off, rfl, fun j v hj => hm.cellSome (h i x hx j v hj) (by simp)⟩

theorem open_seq {X : Type} {H : Type} {enc : TypeId × Value → H} {w : World} {base : Nat} {spare : Nat → Bool} {held : Bool} {ts te : TypeId} (hts : Try.prog.underlying ts = some (.slice te)) {C : Nat} (hC : Try.prog.cellsOf te = C) (h0 : 0 < C) (cellsX : X → List Value)
    (hopen : ∀ (fuel : Nat) (cs : List Value) (x : DataW H × List MemPlace), DataW.trod enc Try.prog w base spare held fuel te cs = some x → cs.length = C → ∃ x : X, cs = cellsX x)
    {a : Option Addr} {len cap : Nat} {d : DataW H} {p : List MemPlace}
    (h : DataW.Trod enc Try.prog w base spare held ts (.slice a len cap) d p) : ∃ xs : List X, xs.length = len ∧ IsSeq C cellsX w a xs ∧ len ≤ 9223372036854775807 := by
  obtain ⟨fuel, hf⟩ := h
  rcases open_slice hts hf with ⟨h0, _⟩ | ⟨ad, l, c, m, n, D, Pl, hcs, _, hl, hm, hmm, _, hx⟩
  · simp [Value.cells] at h0
    obtain ⟨rfl, rfl, rfl⟩ := h0
    exact ⟨[], rfl, Or.inl rfl, by omega⟩
  · simp [Value.cells] at hcs
    obtain ⟨rfl, rfl, rfl⟩ := hcs
    rw [hC] at hx
    have hlm : len ≤ m := by rw [hmm]; split <;> omega
    have key : ∀ i, i < len → ∃ x : X, (i = 0 → ad.spot = none) ∧ ∀ (j : Nat) (v : Value), (cellsX x)[j]? = some v → w.cell? (ad.add (i * C + j)) = some v := by
      intro i hi
      obtain ⟨cs', h1, h2⟩ := hx i (by omega)
      obtain ⟨_, hlen, hat⟩ := World.cells?_some h1
      obtain ⟨x, rfl⟩ := hopen _ _ _ h2 hlen
      refine ⟨x, ?_, ?_⟩
      · intro hi0
        subst hi0
        have hc0 : (cellsX x)[0]? = some (cellsX x)[0] := List.getElem?_eq_getElem (by omega)
        have := hat 0 (by omega)
        rw [hc0] at this
        simpa [Addr.add] using World.cell?_spot this
      · intro j v hj
        obtain ⟨hj', rfl⟩ := List.getElem?_eq_some_iff.1 hj
        rw [← Go.Deep.add_add, hat j (by omega)]
        exact List.getElem?_eq_getElem hj'
    obtain ⟨xs, hxl, hxs⟩ := choose_list len key
    refine ⟨xs, hxl, ?_, by simp [maxLen] at hm; omega⟩
    cases xs with
    | nil => exact Or.inl rfl
    | cons x0 xs =>
      have hsp := (hxs 0 x0 rfl).1 rfl
      obtain ⟨b, off, sp⟩ := ad
      simp at hsp
      subst hsp
      refine Or.inr ⟨b, off, rfl, fun i x hi j v hj => ?_⟩
      have h0 := (hxs i x hi).2 j v hj
      have hadd : ∀ k, (⟨b, off, none⟩ : Addr).add k = ⟨b, off + k, none⟩ := by intro k; unfold Addr.add; split <;> simp_all
      rw [hadd] at h0
      rw [Nat.add_assoc]; exact h0

end Go.Proofs.Ytocfeeecgpklnaa
