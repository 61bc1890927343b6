/- What a call holds of the things that it was given, and of what it has made. -/
import Derived.Test.YthofkkmnngmafaaK4
namespace Go.Proofs.Ythofkkmnngmafaa
set_option linter.unusedVariables false
set_option linter.unusedSimpArgs false
set_option linter.unusedSectionVars false
open Go.RowKit

/-- Since w0, of the blocks L0 and of new ones: R. -/
def Hld (w0 : World) (L0 : List Nat) (R : Res) (w : World) : Prop := ∃ L, R w L ∧ Mod L0 w0 w ∧ ∀ k ∈ L, k ∈ L0 ∨ w0.heap.size ≤ k
/-- What a call gives back: a value, and what is so of it. -/
def Gives (w : World) (L : List Nat) (R' : Value → Res) (e : Ending) (w' : World) : Prop := ∃ r, e = .returned r ∧ Hld w L (R' r) w'

theorem Hld.start {R : Res} {w : World} {L : List Nat} (h : R w L) : Hld w L R w := ⟨L, h, Mod.refl _ _, fun k hk => Or.inl hk⟩
theorem Hld.m {w0 w : World} {L0 : List Nat} {R : Res} (h : Hld w0 L0 R w) : Mod L0 w0 w := h.choose_spec.2.1
theorem Hld.ent {w0 w : World} {L0 : List Nat} {R S : Res} (h : Hld w0 L0 R w) (he : Ent R S) : Hld w0 L0 S w := by
  obtain ⟨L, h1, h2, h3⟩ := h
  obtain ⟨L', g1, g2⟩ := he w L h1
  exact ⟨L', g1, h2, fun k hk => h3 k (g2 k hk)⟩
theorem Hld.trans {w0 w : World} {L0 : List Nat} {R : Res} (h : Hld w0 L0 R w) {L : List Nat} (hL : ∀ k ∈ L, k ∈ L0 ∨ w0.heap.size ≤ k) {w' : World} (hm : Mod L w w') : Mod L0 w0 w' :=
  h.m.trans hm (fun x hx _ => hx) (fun x hx hlt => (hL x hx).resolve_right (by omega))
theorem Hld.mod {w0 w w' : World} {L0 : List Nat} {R : Res} [Keep R] (h : Hld w0 L0 R w) (hm : Mod [] w w') : Hld w0 L0 R w' := by
  obtain ⟨L, h1, h2, h3⟩ := h
  exact ⟨L, Keep.mod h1 hm (by simp), h2.trans hm (fun x hx _ => hx) (by simp), h3⟩
theorem Hld.drew {w0 w : World} {L0 : List Nat} {R : Res} [Keep R] (h : Hld w0 L0 R w) : Hld w0 L0 R w.drew := h.mod (Mod.refl [] w).drew
theorem Hld.drewN {w0 w : World} {L0 : List Nat} {R : Res} [Keep R] (h : Hld w0 L0 R w) (n : Nat) : Hld w0 L0 R (w.drewN n) := h.mod ((Mod.refl [] w).drewN n)
/-- The first thing, and how it may be changed. -/
theorem Hld.first {w0 w : World} {L0 : List Nat} {R U : Res} [Keep U] (h : Hld w0 L0 (star R U) w) : ∃ L, R w L ∧ ∀ (R' : Res) (w' : World) (L' : List Nat), R' w' L' → Mod L w w' → (∀ k ∈ L', k ∈ L ∨ w.heap.size ≤ k) → Hld w0 L0 (star R' U) w' := by
  have h' := h
  obtain ⟨L, ⟨L1, L2, h1, h2, rfl, hd⟩, hm, hf⟩ := h
  refine ⟨L1, h1, fun R' w' L' k1 k2 k3 => ⟨L' ++ L2, ⟨L', L2, k1, Keep.mod h2 k2 (fun k hk h => hd k h hk), rfl, ?_⟩, h'.trans (fun k hk => hf k (by simp [hk])) k2, ?_⟩⟩
  · intro k hk h
    rcases k3 k hk with h' | h'
    · exact hd k h' h
    · exact absurd (Keep.lt h2 k h) (by omega)
  · intro k hk
    rcases List.mem_append.1 hk with h | h
    · rcases k3 k h with h' | h'
      · exact hf k (by simp [h'])
      · have := hm.size; exact Or.inr (by omega)
    · exact hf k (by simp [h])
/-- A call that does something to the first thing. -/
theorem Hld.call {w0 w : World} {L0 : List Nat} {R U : Res} [Keep U] {P : Program} {f : FuncId} {args : Array Value} {R' : Value → Res} (h : Hld w0 L0 (star R U) w) (hc : ∀ L, R w L → Calls P f args w (Gives w L R')) :
    Calls P f args w fun e w' => ∃ r, e = .returned r ∧ Hld w0 L0 (star (R' r) U) w' := by
  obtain ⟨L, h1, h2⟩ := h.first
  refine (hc L h1).mono fun e w' hs => ?_
  obtain ⟨r, rfl, L', g1, g2, g3⟩ := hs
  exact ⟨r, rfl, h2 _ _ _ g1 g2 g3⟩
/-- A call that makes a thing and leaves all as it was. -/
theorem Hld.made {w0 w w' : World} {L0 : List Nat} {R R' : Res} [Keep R] (h : Hld w0 L0 R w) {L : List Nat} (h1 : R' w' L) (hm : Mod [] w w') (hf : ∀ k ∈ L, w.heap.size ≤ k) : Hld w0 L0 (star R' R) w' := by
  obtain ⟨M, k1, k2, k3⟩ := h
  refine ⟨L ++ M, ⟨L, M, h1, Keep.mod k1 hm (by simp), rfl, fun k hk h => absurd (Keep.lt k1 k h) (by have := hf k hk; omega)⟩, k2.trans hm (fun x hx _ => hx) (by simp), fun k hk => ?_⟩
  rcases List.mem_append.1 hk with h | h
  · have := hf k h; have := k2.size; exact Or.inr (by omega)
  · exact k3 k h
theorem Hld.box {w0 w : World} {L0 : List Nat} {R : Res} [Keep R] (h : Hld w0 L0 R w) (cs : Array Value) (T : TypeId) : Hld w0 L0 (star (boxR w.heap.size cs T) R) (w.alloc (.cells cs T)) :=
  h.made (L := [w.heap.size]) ⟨Blk.new w cs T, rfl⟩ ((Mod.refl [] w).alloc _) (by simp)
theorem Hld.res {w0 w : World} {L0 : List Nat} {R U : Res} (h : Hld w0 L0 (star R U) w) : ∃ L, R w L := by
  obtain ⟨L, ⟨L1, L2, h1, _⟩, _⟩ := h
  exact ⟨L1, h1⟩
theorem Hld.get {w0 w : World} {L0 : List Nat} {U : Res} {b : Nat} {cs : Array Value} {T : TypeId} (h : Hld w0 L0 (star (boxR b cs T) U) w) : Blk w b cs T := by
  obtain ⟨L, h1, _⟩ := h.res
  exact h1
theorem Hld.set {w0 w : World} {L0 : List Nat} {U : Res} [Keep U] {b : Nat} {cs : Array Value} {T : TypeId} (h : Hld w0 L0 (star (boxR b cs T) U) w) (i : Nat) (v : Value) : Hld w0 L0 (star (boxR b (cs.setIfInBounds i v) T) U) (w.setCell ⟨b, i, none⟩ v) := by
  obtain ⟨L, ⟨h1, rfl⟩, h2⟩ := h.first
  exact h2 _ _ [b] ⟨h1.set i v, rfl⟩ ((Mod.refl _ _).setCell (by simp) _) (by simp)
/-- A fact, and a thing that is not known, out of the first one. -/
theorem Hld.fact {w0 w : World} {L0 : List Nat} {p : Prop} {R U : Res} (h : Hld w0 L0 (star (fun w L => p ∧ R w L) U) w) : p ∧ Hld w0 L0 (star R U) w := by
  obtain ⟨L, ⟨L1, L2, ⟨hp, h1⟩, h2⟩, h3⟩ := h
  exact ⟨hp, L, ⟨L1, L2, h1, h2⟩, h3⟩
theorem Hld.ex {α : Sort _} {w0 w : World} {L0 : List Nat} {R : α → Res} {U : Res} (h : Hld w0 L0 (star (fun w L => ∃ x, R x w L) U) w) : ∃ x, Hld w0 L0 (star (R x) U) w := by
  obtain ⟨L, ⟨L1, L2, ⟨x, h1⟩, h2⟩, h3⟩ := h
  exact ⟨x, L, ⟨L1, L2, h1, h2⟩, h3⟩

theorem Hld.also {w0 w : World} {L0 : List Nat} {p : Prop} {R : Res} (hp : p) (h : Hld w0 L0 R w) : Hld w0 L0 (fun w L => p ∧ R w L) w := by
  obtain ⟨L, h1, h2⟩ := h
  exact ⟨L, ⟨hp, h1⟩, h2⟩
theorem Hld.some {α : Sort _} {w0 w : World} {L0 : List Nat} {R : α → Res} (x : α) (h : Hld w0 L0 (R x) w) : Hld w0 L0 (fun w L => ∃ x, R x w L) w := by
  obtain ⟨L, h1, h2⟩ := h
  exact ⟨L, ⟨x, h1⟩, h2⟩

theorem ent_refl (R : Res) : Ent R R := fun w L h => ⟨L, h, fun _ h => h⟩
theorem Ent.trans {R S T : Res} (h : Ent R S) (k : Ent S T) : Ent R T := fun w L hR => by
  obtain ⟨L1, h1, h2⟩ := h w L hR
  obtain ⟨L2, h3, h4⟩ := k w L1 h1
  exact ⟨L2, h3, fun x hx => h2 x (h4 x hx)⟩
theorem ent_comm (R S : Res) : Ent (star R S) (star S R) := by
  rintro w L ⟨L1, L2, h1, h2, rfl, hd⟩
  exact ⟨L2 ++ L1, ⟨L2, L1, h2, h1, rfl, fun k hk h => hd k h hk⟩, fun k hk => by simp at hk ⊢; exact hk.symm⟩
theorem Ent.left {S S' : Res} (h : Ent S S') (A : Res) : Ent (star S A) (star S' A) := (ent_comm _ _).trans ((h.under A).trans (ent_comm _ _))
theorem ent_assoc1 (A B C : Res) : Ent (star (star A B) C) (star A (star B C)) := by
  rintro w L ⟨L1, L2, ⟨L3, L4, h3, h4, rfl, hd'⟩, h2, rfl, hd⟩
  refine ⟨L3 ++ (L4 ++ L2), ⟨L3, L4 ++ L2, h3, ⟨L4, L2, h4, h2, rfl, fun k hk h => hd k (by simp [hk]) h⟩, rfl, ?_⟩, fun k hk => by simpa using hk⟩
  intro k hk h
  rcases List.mem_append.1 h with h | h
  · exact hd' k hk h
  · exact hd k (by simp [hk]) h
theorem ent_assoc2 (A B C : Res) : Ent (star A (star B C)) (star (star A B) C) := by
  rintro w L ⟨L1, L2, h1, ⟨L3, L4, h3, h4, rfl, hd'⟩, rfl, hd⟩
  refine ⟨(L1 ++ L3) ++ L4, ⟨L1 ++ L3, L4, ⟨L1, L3, h1, h3, rfl, fun k hk h => hd k hk (by simp [h])⟩, h4, rfl, ?_⟩, fun k hk => by simpa using hk⟩
  intro k hk h
  rcases List.mem_append.1 hk with h' | h'
  · exact hd k h' (by simp [h])
  · exact hd' k h' h
theorem ent_emp1 (A : Res) : Ent (star A emp) A := by
  rintro w L ⟨L1, L2, h1, h2, rfl, _⟩
  cases h2
  exact ⟨L1, h1, by simp⟩
theorem ent_emp2 (A : Res) : Ent A (star A emp) := fun w L h => ⟨L ++ [], ⟨L, [], h, rfl, rfl, by simp⟩, by simp⟩
theorem ent_pull4 (A B C D U : Res) : Ent (star A (star B (star C (star D U)))) (star D (star A (star B (star C U)))) :=
  ((((ent_swap C D U).under B).under A).trans (((ent_swap B D _).under A))).trans (ent_swap A D _)
theorem ent_pull5 (A B C D E U : Res) : Ent (star A (star B (star C (star D (star E U))))) (star E (star A (star B (star C (star D U))))) := ((ent_pull4 B C D E U).under A).trans (ent_swap A E _)
theorem ent_pull3 (A B C U : Res) : Ent (star A (star B (star C U))) (star C (star A (star B U))) := (((ent_swap B C U).under A)).trans (ent_swap A C _)
theorem Hld.swap {w0 w : World} {L0 : List Nat} {R S U : Res} (h : Hld w0 L0 (star R (star S U)) w) : Hld w0 L0 (star S (star R U)) w := h.ent (ent_swap R S U)
theorem Hld.swap2 {w0 w : World} {L0 : List Nat} {A R S U : Res} (h : Hld w0 L0 (star A (star R (star S U))) w) : Hld w0 L0 (star A (star S (star R U))) w := h.ent ((ent_swap R S U).under A)
theorem Hld.drop {w0 w : World} {L0 : List Nat} {R S : Res} (h : Hld w0 L0 (star R S) w) : Hld w0 L0 S w := h.ent (ent_drop R S)
theorem Hld.as1 {w0 w : World} {L0 : List Nat} {A B C : Res} (h : Hld w0 L0 (star (star A B) C) w) : Hld w0 L0 (star A (star B C)) w := h.ent (ent_assoc1 A B C)
theorem Hld.as2 {w0 w : World} {L0 : List Nat} {A B C : Res} (h : Hld w0 L0 (star A (star B C)) w) : Hld w0 L0 (star (star A B) C) w := h.ent (ent_assoc2 A B C)
theorem Top.hld {w0 w : World} {R : Res} (h : Top w0 R w) : Hld w0 [] R w := by
  obtain ⟨L, h1, h2, h3⟩ := h
  exact ⟨L, h1, h2, fun k hk => Or.inr (h3 k hk)⟩
theorem Hld.top {w0 w : World} {R : Res} (h : Hld w0 [] R w) : Top w0 R w := by
  obtain ⟨L, h1, h2, h3⟩ := h
  exact ⟨L, h1, h2, fun k hk => (h3 k hk).resolve_left (by simp)⟩
end Go.Proofs.Ythofkkmnngmafaa
