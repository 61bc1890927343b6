/- The list of items that comes in: what its cells hold. -/
import Derived.Test.YtmjbpnoemdnhbaaRows
import Derived.Test.YtmjbpnoemdnhbaaK1
import Derived.Deep.Slices
import Derived.Deep.Strs
import Derived.ChangeSame
import Derived.ProofKit
namespace Go.Proofs.Ytmjbpnoemdnhbaa
open Go.RowKit Go.ChangeShapes Go.WideShapes Go.Deep

/-- An item: is it a text; the text; the number. -/
structure Item where
  isT : Bool
  s : ByteArray
  n : Nat
  hs : s.size ≤ 9223372036854775807
  hn : n < 18446744073709551616

/-- A slice's items lie at its address, three cells each. -/
def IsItems (w : World) (a : Option Addr) (xs : List Item) : Prop :=
  xs = [] ∨ ∃ b off : Nat, a = some ⟨b, off, none⟩ ∧ ∀ (i : Nat) (x : Item), xs[i]? = some x →
    w.cell? ⟨b, off + i * 3, none⟩ = some (.bool x.isT) ∧ w.cell? ⟨b, off + i * 3 + 1, none⟩ = some (.string x.s) ∧ w.cell? ⟨b, off + i * 3 + 2, none⟩ = some (.int .u64 x.n)

theorem choose_list {α : Type} {p : Nat → α → Prop} : ∀ (n : Nat), (∀ i, i < n → ∃ x, p i x) → ∃ xs : List α, xs.length = n ∧ ∀ i x, xs[i]? = some x → p i x
  | 0, _ => ⟨[], rfl, fun i x h => by simp at h⟩
  | n + 1, h => by
    obtain ⟨xs, hl, hx⟩ := choose_list n (fun i hi => h i (by omega))
    obtain ⟨x, hp⟩ := h n (by omega)
    refine ⟨xs ++ [x], by simp [hl], fun i y hy => ?_⟩
    rcases Nat.lt_or_ge i n with hi | hi
    · rw [List.getElem?_append_left (by omega)] at hy; exact hx i y hy
    · rw [List.getElem?_append_right (by omega)] at hy
      have : i - xs.length = 0 := by
        rcases Nat.eq_zero_or_pos (i - xs.length) with h0 | h0
        · exact h0
        · rw [List.getElem?_eq_none (by simp; omega)] at hy; cases hy
      rw [this] at hy
      simp at hy
      have hin : i = n := by omega
      subst hin; subst hy; exact hp

theorem open_items {H : Type} {enc : TypeId × Value → H} {w : World} {base : Nat} {spare : Nat → Bool} {held : Bool} {a : Option Addr} {len cap : Nat} {d : DataW H} {p : List MemPlace}
    (h : DataW.Trod enc Try.prog w base spare held 22 (.slice a len cap) d p) : ∃ xs : List Item, xs.length = len ∧ IsItems w a xs ∧ len ≤ 9223372036854775807 := by
  obtain ⟨fuel, hf⟩ := h
  have hC : Try.prog.cellsOf 25 = 3 := by kernel_rfl
  rcases open_slice Try.underlying22 hf with ⟨h0, _⟩ | ⟨ad, l, c, m, n, D, Pl, hcs, _, hl, hm, hmm, _, hx⟩
  · simp [Value.cells] at h0
    obtain ⟨rfl, rfl, rfl⟩ := h0
    exact ⟨[], rfl, Or.inl rfl, by omega⟩
  · simp [Value.cells] at hcs
    obtain ⟨rfl, rfl, rfl⟩ := hcs
    rw [hC] at hx
    have hlm : len ≤ m := by rw [hmm]; split <;> omega
    have key : ∀ i, i < len → ∃ x : Item, (i = 0 → ad.spot = none) ∧ w.cell? (ad.add (i * 3 + 0)) = some (.bool x.isT) ∧ w.cell? (ad.add (i * 3 + 1)) = some (.string x.s) ∧ w.cell? (ad.add (i * 3 + 2)) = some (.int .u64 x.n) := by
      intro i hi
      obtain ⟨cs', h1, h2⟩ := hx i (by omega)
      obtain ⟨_, hlen, hat⟩ := World.cells?_some h1
      have c4 : Try.prog.cellsOf 4 = 1 := by kernel_rfl
      have c9 : Try.prog.cellsOf 9 = 1 := by kernel_rfl
      have c23 : Try.prog.cellsOf 23 = 1 := by kernel_rfl
      obtain ⟨y0, y1, y2, n', _, _, t0, t1, t2⟩ := trod_struct3 Try.underlying25 h2
      match cs', hlen with
      | [v0, v1, v2], _ =>
        rw [c4] at t0
        rw [c9] at t1
        rw [c23] at t2
        obtain ⟨bb, e0, _⟩ := DataW.trod_bool Try.underlying4 t0
        obtain ⟨ss, e1, _, hs⟩ := DataW.trod_string Try.underlying9 t1
        obtain ⟨nn, e2, _, hw⟩ := DataW.trod_int Try.underlying23 t2
        simp at e0 e1 e2
        subst e0 e1 e2
        have hb : 0 ≤ nn ∧ nn < 18446744073709551616 := by
          simp [Lit.wf, IntKind.min, IntKind.max, IntKind.signed, IntKind.bits] at hw
          omega
        obtain ⟨k, rfl⟩ := Int.eq_ofNat_of_zero_le hb.1
        have g0 := hat 0 (by omega)
        have g1 := hat 1 (by omega)
        have g2 := hat 2 (by omega)
        refine ⟨⟨bb, ss, k, by simpa [maxLen] using hs, by omega⟩, ?_, ?_, ?_, ?_⟩
        · intro h0
          subst h0
          simpa [Addr.add] using World.cell?_spot g0
        · rw [← Go.Deep.add_add]; exact g0
        · rw [← Go.Deep.add_add]; exact g1
        · rw [← Go.Deep.add_add]; exact g2
    obtain ⟨xs, hxl, hxs⟩ := choose_list len key
    refine ⟨xs, hxl, ?_, by simp [maxLen] at hm; omega⟩
    cases xs with
    | nil => exact Or.inl rfl
    | cons x0 xs =>
      have hsp := (hxs 0 x0 rfl).1 rfl
      obtain ⟨b, off, sp⟩ := ad
      simp at hsp
      subst hsp
      refine Or.inr ⟨b, off, rfl, fun i x hi => ?_⟩
      obtain ⟨_, h0, h1, h2⟩ := hxs i x hi
      have hadd : ∀ k, (⟨b, off, none⟩ : Addr).add k = ⟨b, off + k, none⟩ := by intro k; unfold Addr.add; split <;> simp_all
      rw [hadd] at h0 h1 h2
      exact ⟨h0, by rw [Nat.add_assoc]; exact h1, by rw [Nat.add_assoc]; exact h2⟩
end Go.Proofs.Ytmjbpnoemdnhbaa
