/- Versions in memory; may. -/
import Derived.Test.YtmdomihpohekiaaK5
import Derived.Test.YtmdomihpohekiaaI0
import Derived.Deep.RegionHeld3
namespace Go.Proofs.Ytmdomihpohekiaa
set_option linter.unusedVariables false
set_option linter.unusedSimpArgs false
set_option linter.unusedSectionVars false
open Go.RowKit

/-- A version. -/
structure Vr where
  ts : Nat
  ln : Nat
  dl : Bool
  vl : ByteArray
  ak : Bool

def v0 : Vr := ⟨0, 0, false, ⟨#[]⟩, false⟩
def vrC (x : Vr) : List Value := [.int .u64 x.ts, .int .u64 x.ln, .bool x.dl, .string x.vl, .bool x.ak]
def vrV (x : Vr) : Value := .agg #[.int .u64 x.ts, .int .u64 x.ln, .bool x.dl, .string x.vl, .bool x.ak]
def vsC (l : List Vr) : List Value := l.flatMap vrC

theorem vsC_len (l : List Vr) : (vsC l).length = l.length * 5 := by
  induction l with
  | nil => rfl
  | cons x l ih => simp [vsC, vrC] at ih ⊢; omega
theorem vsC_append (a b : List Vr) : vsC (a ++ b) = vsC a ++ vsC b := by simp [vsC]
theorem vsC_one (l : List Vr) : ∀ u ∈ vsC l, u.oneCell' = true := by
  intro u hu
  simp [vsC, vrC] at hu
  obtain ⟨x, _, rfl | rfl | rfl | rfl | rfl⟩ := hu <;> rfl
theorem vsC_at : ∀ (l : List Vr) (k : Nat) (x : Vr), l[k]? = some x → ∀ j, j < 5 → (vsC l)[k * 5 + j]? = (vrC x)[j]? := by
  intro l
  induction l with
  | nil => intro k x h; simp at h
  | cons y l ih =>
    intro k x h j hj
    cases k with
    | zero =>
      simp at h; subst h
      have e : vsC (y :: l) = vrC y ++ vsC l := rfl
      rw [e, List.getElem?_append_left (by simp [vrC]; omega)]
      simp
    | succ k =>
      have e : vsC (y :: l) = vrC y ++ vsC l := rfl
      rw [e, List.getElem?_append_right (by simp [vrC]; omega)]
      rw [← ih k x (by simpa using h) j hj]
      congr 1
      simp [vrC]; omega

/-- The value is a slice that reads as l. -/
def Lv (w : World) (v : Value) (l : List Vr) : Prop := ∃ a cap, v = .slice a l.length cap ∧ IsSeq 5 vrC w a l ∧ l.length ≤ 9223372036854775807

theorem IsSeq.mod {X : Type} {C : Nat} {cellsX : X → List Value} {w w' : World} {a : Option Addr} {xs : List X} {M : List Nat} (h : IsSeq C cellsX w a xs) (hm : Mod M w w') (hd : ∀ b off, a = some ⟨b, off, none⟩ → b ∉ M) : IsSeq C cellsX w' a xs := by
  rcases h with rfl | ⟨b, off, rfl, h⟩
  · exact Or.inl rfl
  · exact Or.inr ⟨b, off, rfl, fun i x hx j v hj => hm.cellSome (h i x hx j v hj) (hd b off rfl)⟩
theorem Lv.mod {w w' : World} {v : Value} {l : List Vr} (h : Lv w v l) (hm : Mod [] w w') : Lv w' v l := by
  obtain ⟨a, cap, rfl, h1, h2⟩ := h
  exact ⟨a, cap, rfl, h1.mod hm (by simp), h2⟩
theorem Lv.at {w : World} {a : Option Addr} {n cap : Nat} {l : List Vr} (h : Lv w (.slice a n cap) l) {i : Nat} {x : Vr} (hx : l[i]? = some x) :
    ∃ b off : Nat, a = some ⟨b, off, none⟩ ∧ w.cell? ⟨b, off + i * 5, none⟩ = some (.int .u64 x.ts) ∧ w.cell? ⟨b, off + i * 5 + 1, none⟩ = some (.int .u64 x.ln) ∧ w.cell? ⟨b, off + i * 5 + 2, none⟩ = some (.bool x.dl) ∧ w.cell? ⟨b, off + i * 5 + 3, none⟩ = some (.string x.vl) ∧ w.cell? ⟨b, off + i * 5 + 4, none⟩ = some (.bool x.ak) := by
  obtain ⟨a', cap', hv, h1, h2⟩ := h
  simp only [Value.slice.injEq] at hv
  obtain ⟨rfl, rfl, rfl⟩ := hv
  obtain ⟨b, off, rfl, hc⟩ := h1.at (Mod.refl [] w) hx
  exact ⟨b, off, rfl, hc 0 _ rfl, hc 1 _ rfl, hc 2 _ rfl, hc 3 _ rfl, hc 4 _ rfl⟩
theorem Own.lv {w : World} {E : TypeId} {v : Value} {l : List Vr} {L : List Nat} (h : Own w E 5 v l.length (vsC l) L) : Lv w v l := by
  obtain ⟨a, cap, rfl, h1, h2, h3⟩ := h.val
  refine ⟨a, cap, rfl, ?_, by omega⟩
  cases l with
  | nil => exact Or.inl rfl
  | cons y l =>
    obtain ⟨g, rfl, _, hc⟩ := h3 (by simp)
    refine Or.inr ⟨g, 0, rfl, fun i x hx j v hj => ?_⟩
    have hj5 : j < 5 := (List.getElem?_eq_some_iff.1 hj).1
    have hi := (List.getElem?_eq_some_iff.1 hx).1
    have e := vsC_at _ i x hx j hj5
    rw [Nat.zero_add, hc _ (by simp at hi ⊢; omega), e, hj]

/-- The times rise. -/
def tsA (l : List Vr) (i : Nat) : Nat := (l.map Vr.ts).getD i 0
def mayB (l : List Vr) : Bool := (List.range (l.length - 1)).all fun i => decide (tsA l i < tsA l (i + 1))
theorem mayB_iff (l : List Vr) : mayB l = true ↔ ∀ i, i + 1 < l.length → tsA l i < tsA l (i + 1) := by
  simp only [mayB, List.all_eq_true, List.mem_range, decide_eq_true_eq]
  exact ⟨fun h i hi => h i (by omega), fun h i hi => h i (by omega)⟩
theorem mayB_no (l : List Vr) (i : Nat) (hi : i + 1 < l.length) (h : tsA l (i + 1) ≤ tsA l i) : mayB l = false := by
  cases hm : mayB l
  · rfl
  · have := (mayB_iff l).1 hm i hi; omega
theorem tsA_at {l : List Vr} {i : Nat} {x : Vr} (h : l[i]? = some x) : tsA l i = x.ts := by simp [tsA, h]

set_option maxRecDepth 100000 in
set_option maxHeartbeats 1000000 in
theorem may_c (w : World) (v : Value) (l : List Vr) (h : Lv w v l) :
    Calls Try.prog 34 #[v] w fun e w' => e = .returned (.bool (mayB l)) ∧ Mod [] w w' := by
  have H := hid h
  obtain ⟨a, cap, rfl, _, hlen⟩ := h
  go_enter Try.func34, Try.ntmps34
  go_wp2
  go_loopg [3] (l.length + 1) (fun g i wr => ∃ k : Nat, i = .int .i64 k ∧ 1 ≤ k ∧ k + g = l.length + 2 ∧ Hid (∀ j, j + 1 < k → j + 1 < l.length → tsA l j < tsA l (j + 1)) ∧ Hid (Mod [] w wr))
  · exact ⟨1, rfl, by omega, by omega, hid (by intro j h; omega), Mod.refl _ _⟩
  · obtain ⟨k, rfl, h1, hk, hA, hM⟩ := hrel
    by_cases hlt : k < l.length
    · obtain ⟨k, rfl⟩ : ∃ m, k = m + 1 := ⟨k - 1, by omega⟩
      obtain ⟨x, hx⟩ : ∃ x, l[k]? = some x := ⟨_, List.getElem?_eq_getElem (by omega)⟩
      obtain ⟨y, hy⟩ : ∃ y, l[k + 1]? = some y := ⟨_, List.getElem?_eq_getElem hlt⟩
      obtain ⟨b, off, rfl, c0, _⟩ := (H.out.mod hM.out).at hx
      obtain ⟨b', off', e, d0, _⟩ := (H.out.mod hM.out).at hy
      simp only [Option.some.injEq, Addr.mk.injEq, and_true] at e
      obtain ⟨rfl, rfl⟩ := e
      have tx := tsA_at hx
      have ty := tsA_at hy
      have Tx := hid tx
      have Ty := hid ty
      clear hx hy tx ty
      have hw1 : IntKind.i64.wrap ((k : Int) + 1 - 1) = (k : Int) := by rw [IntWalk.i64_in _ ⟨by omega, by omega⟩]; omega
      have hi0 : (0 : Int) ≤ (k : Int) := by omega
      have hi1 : (k : Int) < (l.length : Int) := by omega
      have hi2 : (k : Int) + 1 < (l.length : Int) := by omega
      have hi3 : (0 : Int) ≤ (k : Int) + 1 := by omega
      have hi4 : ((k : Int) + 1).toNat = k + 1 := by omega
      have hM' := hid (hM.out.drewN 1)
      go_upto_region 4 with (fail)
      clear hM'
      by_cases hc : x.ts < y.ts
      · go_quiet (fail)
        rename_i nq _
        have hM2 := hid (hM.out.drewN nq)
        clear hw1 hi4
        go_wp2
        go_roundg (gk - 1)
        case measure => omega
        case rel => exact ⟨k + 1 + 1, by go_num, by omega, by omega, hid (by
          intro j hj hjl
          rcases (by omega : j = k ∨ j + 1 < k + 1) with rfl | h
          · rw [Tx.out, Ty.out]; exact hc
          · exact hA.out j h hjl), hM2⟩
      · have hc' : y.ts ≤ x.ts := by omega
        go_quiet (fail)
        rename_i nq _
        have hM2 := hid (hM.out.drewN nq)
        clear hw1 hi4
        go_wp2
        go_ret
        exact ⟨ret_bool (mayB_no l k (by omega) (by rw [Tx.out, Ty.out]; exact hc')).symm, hM2.out⟩
    · go_wp2
      go_ret
      refine ⟨ret_bool ((mayB_iff l).2 fun i hi => hA.out i (by omega) hi).symm, hM.out⟩

end Go.Proofs.Ytmdomihpohekiaa
