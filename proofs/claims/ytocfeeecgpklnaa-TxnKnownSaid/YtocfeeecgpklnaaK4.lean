/- Things in memory that share no block: what a call does to one leaves the others. -/
import Derived.Test.YtocfeeecgpklnaaK3
namespace Go.Proofs.Ytocfeeecgpklnaa
set_option linter.unusedVariables false
set_option linter.unusedSimpArgs false
set_option linter.unusedSectionVars false
open Go.RowKit

/-- A thing in memory, and the blocks that it has. -/
abbrev Res := World → List Nat → Prop
class Keep (R : Res) : Prop where
  lt : ∀ {w : World} {L : List Nat}, R w L → ∀ k ∈ L, k < w.heap.size
  mod : ∀ {w w' : World} {L M : List Nat}, R w L → Mod M w w' → (∀ k ∈ L, k ∉ M) → R w' L

def emp : Res := fun _ L => L = []
def boxR (b : Nat) (cs : Array Value) (T : TypeId) : Res := fun w L => Blk w b cs T ∧ L = [b]
def rowR (E : TypeId) (sz : Nat) (v : Value) (n : Nat) (xs : List Value) : Res := fun w L => Own w E sz v n xs L
def star (R S : Res) : Res := fun w L => ∃ L1 L2, R w L1 ∧ S w L2 ∧ L = L1 ++ L2 ∧ ∀ k ∈ L1, k ∉ L2

instance : Keep emp where
  lt := by rintro w L rfl k hk; cases hk
  mod := by rintro w w' L M h _ _; exact h
instance (b : Nat) (cs : Array Value) (T : TypeId) : Keep (boxR b cs T) where
  lt := by rintro w L ⟨h, rfl⟩ k hk; simp at hk; subst hk; exact h.lt
  mod := by rintro w w' L M ⟨h, rfl⟩ hm hd; exact ⟨hm.blk h (hd _ (by simp)), rfl⟩
instance (E : TypeId) (sz : Nat) (v : Value) (n : Nat) (xs : List Value) : Keep (rowR E sz v n xs) where
  lt := fun h k hk => Own.lt h k hk
  mod := fun h hm hd => Own.mod h hm hd
instance (R S : Res) [Keep R] [Keep S] : Keep (star R S) where
  lt := by
    rintro w L ⟨L1, L2, h1, h2, rfl, _⟩ k hk
    rcases List.mem_append.1 hk with h | h
    · exact Keep.lt h1 k h
    · exact Keep.lt h2 k h
  mod := by
    rintro w w' L M ⟨L1, L2, h1, h2, rfl, hd⟩ hm hn
    exact ⟨L1, L2, Keep.mod h1 hm (fun k hk => hn k (by simp [hk])), Keep.mod h2 hm (fun k hk => hn k (by simp [hk])), rfl, hd⟩

/-- What a call leaves of the thing with the blocks L. -/
def Says (w : World) (L : List Nat) (r : Value) (R' : Res) (e : Ending) (w' : World) : Prop :=
  e = .returned r ∧ ∃ L', R' w' L' ∧ Mod L w w' ∧ ∀ k ∈ L', k ∈ L ∨ w.heap.size ≤ k

/-- All that the walk has made since w0. -/
def Top (w0 : World) (R : Res) (w : World) : Prop := ∃ L, R w L ∧ Mod [] w0 w ∧ ∀ k ∈ L, w0.heap.size ≤ k

theorem Top.start (w : World) : Top w emp w := ⟨[], rfl, Mod.refl _ _, by simp⟩
theorem Top.m {w0 w : World} {R : Res} (h : Top w0 R w) : Mod [] w0 w := h.choose_spec.2.1
theorem Top.mod {w0 w w' : World} {R : Res} [Keep R] (h : Top w0 R w) (hm : Mod [] w w') : Top w0 R w' := by
  obtain ⟨L, h1, h2, h3⟩ := h
  exact ⟨L, Keep.mod h1 hm (by simp), h2.tr hm, h3⟩
theorem Top.drew {w0 w : World} {R : Res} [Keep R] (h : Top w0 R w) : Top w0 R w.drew := h.mod (Mod.refl [] w).drew
theorem Top.alloc {w0 w : World} {R : Res} [Keep R] (h : Top w0 R w) (o : Obj) : Top w0 R (w.alloc o) := h.mod ((Mod.refl [] w).alloc o)
theorem Top.box {w0 w : World} {R : Res} [Keep R] (h : Top w0 R w) (cs : Array Value) (T : TypeId) : Top w0 (star (boxR w.heap.size cs T) R) (w.alloc (.cells cs T)) := by
  obtain ⟨L, h1, h2, h3⟩ := h
  refine ⟨[w.heap.size] ++ L, ⟨[w.heap.size], L, ⟨Blk.new w cs T, rfl⟩, Keep.mod h1 ((Mod.refl [] w).alloc _) (by simp), rfl, ?_⟩, h2.alloc _, ?_⟩
  · intro k hk hL
    simp at hk
    subst hk
    exact absurd (Keep.lt h1 _ hL) (by omega)
  · intro k hk
    rcases List.mem_append.1 hk with h | h
    · simp at h; subst h; exact h2.size
    · exact h3 k h
theorem Top.drop {w0 w : World} {R S : Res} (h : Top w0 (star R S) w) : Top w0 S w := by
  obtain ⟨L, ⟨L1, L2, h1, h2, rfl, _⟩, hm, hf⟩ := h
  exact ⟨L2, h2, hm, fun k hk => hf k (by simp [hk])⟩
theorem Top.drop2 {w0 w : World} {R S U : Res} (h : Top w0 (star R (star S U)) w) : Top w0 (star R U) w := by
  obtain ⟨L, ⟨L1, L2, h1, ⟨L3, L4, h3, h4, rfl, _⟩, rfl, hd⟩, hm, hf⟩ := h
  exact ⟨L1 ++ L4, ⟨L1, L4, h1, h4, rfl, fun k hk h => hd k hk (by simp [h])⟩, hm, fun k hk => hf k (by simp at hk ⊢; rcases hk with h | h <;> simp [h])⟩
theorem Top.swap {w0 w : World} {R S U : Res} (h : Top w0 (star R (star S U)) w) : Top w0 (star S (star R U)) w := by
  obtain ⟨L, ⟨L1, L2, h1, ⟨L3, L4, h3, h4, rfl, hd'⟩, rfl, hd⟩, hm, hf⟩ := h
  refine ⟨L3 ++ (L1 ++ L4), ⟨L3, L1 ++ L4, h3, ⟨L1, L4, h1, h4, rfl, fun k hk h => hd k hk (by simp [h])⟩, rfl, ?_⟩, hm, fun k hk => hf k (by simp at hk ⊢; rcases hk with h | h | h <;> simp [h])⟩
  intro k hk h
  rcases List.mem_append.1 h with h | h
  · exact hd k h (by simp [hk])
  · exact hd' k hk h
theorem Top.get {w0 w : World} {U : Res} {b : Nat} {cs : Array Value} {T : TypeId} (h : Top w0 (star (boxR b cs T) U) w) : Blk w b cs T := by
  obtain ⟨L, ⟨L1, L2, ⟨h1, _⟩, _⟩, _⟩ := h
  exact h1
theorem Top.res {w0 w : World} {R U : Res} (h : Top w0 (star R U) w) : ∃ L, R w L := by
  obtain ⟨L, ⟨L1, L2, h1, _⟩, _⟩ := h
  exact ⟨L1, h1⟩
theorem Top.says {w0 w w' : World} {R R' U : Res} [Keep U] {L1 L2 : List Nat} {r : Value} {e : Ending} (_h1 : R w L1) (h2 : U w L2) (hd : ∀ k ∈ L1, k ∉ L2) (hm : Mod [] w0 w) (hf : ∀ k ∈ L1 ++ L2, w0.heap.size ≤ k) (hs : Says w L1 r R' e w') : e = .returned r ∧ Top w0 (star R' U) w' := by
  obtain ⟨rfl, L', k1, k2, k3⟩ := hs
  refine ⟨rfl, L' ++ L2, ⟨L', L2, k1, Keep.mod h2 k2 (fun k hk h => hd k h hk), rfl, ?_⟩, hm.trans k2 (by simp) (by intro x hx hlt; exact absurd (hf x (by simp [hx])) (by omega)), ?_⟩
  · intro k hk h
    rcases k3 k hk with h' | h'
    · exact hd k h' h
    · exact absurd (Keep.lt h2 k h) (by omega)
  · intro k hk
    rcases List.mem_append.1 hk with h | h
    · rcases k3 k h with h' | h'
      · exact hf k (by simp [h'])
      · have := hm.size; omega
    · exact hf k (by simp [h])
/-- A call that does something to the first thing. -/
theorem Top.call {w0 w : World} {R R' U : Res} [Keep U] {P : Program} {f : FuncId} {args : Array Value} {r : Value} (h : Top w0 (star R U) w) (hc : ∀ L, R w L → Calls P f args w (Says w L r R')) :
    Calls P f args w fun e w' => e = .returned r ∧ Top w0 (star R' U) w' := by
  obtain ⟨L, ⟨L1, L2, h1, h2, rfl, hd⟩, hm, hf⟩ := h
  exact (hc L1 h1).mono fun e w' hs => Top.says h1 h2 hd hm hf hs
/-- A call that leaves all as it was. -/
theorem Top.read {w0 w : World} {R : Res} [Keep R] {P : Program} {f : FuncId} {args : Array Value} {r : Value} (h : Top w0 R w) (hc : Calls P f args w fun e w' => e = .returned r ∧ Mod [] w w') :
    Calls P f args w fun e w' => e = .returned r ∧ Top w0 R w' :=
  hc.mono fun _ _ hs => ⟨hs.1, h.mod hs.2⟩
/-- A call that makes a thing. -/
theorem Top.made {w0 w w' : World} {R R' : Res} [Keep R] (h : Top w0 R w) {L : List Nat} (h1 : R' w' L) (hm : Mod [] w w') (hf : ∀ k ∈ L, w.heap.size ≤ k) : Top w0 (star R' R) w' := by
  obtain ⟨M, k1, k2, k3⟩ := h
  refine ⟨L ++ M, ⟨L, M, h1, Keep.mod k1 hm (by simp), rfl, fun k hk h => absurd (Keep.lt k1 k h) (by have := hf k hk; omega)⟩, k2.tr hm, fun k hk => ?_⟩
  rcases List.mem_append.1 hk with h | h
  · have := hf k h; have := k2.size; omega
  · exact k3 k h
theorem Top.set {w0 w : World} {U : Res} [Keep U] {b : Nat} {cs : Array Value} {T : TypeId} (h : Top w0 (star (boxR b cs T) U) w) (i : Nat) (v : Value) : Top w0 (star (boxR b (cs.setIfInBounds i v) T) U) (w.setCell ⟨b, i, none⟩ v) := by
  obtain ⟨L, ⟨L1, L2, ⟨h1, rfl⟩, h2, rfl, hd⟩, hm, hf⟩ := h
  refine ⟨[b] ++ L2, ⟨[b], L2, ⟨h1.set i v, rfl⟩, Keep.mod h2 (M := [b]) ((Mod.refl _ _).setCell (by simp) _) (by intro k hk; simp; intro hb; exact hd b (by simp) (hb ▸ hk)), rfl, hd⟩, hm.setCell (Or.inr (hf b (by simp))) _, hf⟩

/-- The one says what the other says, of no other blocks. -/
def Ent (R S : Res) : Prop := ∀ (w : World) (L : List Nat), R w L → ∃ L', S w L' ∧ ∀ k ∈ L', k ∈ L
theorem Ent.under {S S' : Res} (A : Res) (h : Ent S S') : Ent (star A S) (star A S') := by
  rintro w L ⟨L1, L2, h1, h2, rfl, hd⟩
  obtain ⟨L', g1, g2⟩ := h w L2 h2
  exact ⟨L1 ++ L', ⟨L1, L', h1, g1, rfl, fun k hk h => hd k hk (g2 k h)⟩, fun k hk => by
    rcases List.mem_append.1 hk with h | h
    · simp [h]
    · simp [g2 k h]⟩
theorem ent_swap (R S U : Res) : Ent (star R (star S U)) (star S (star R U)) := by
  rintro w L ⟨L1, L2, h1, ⟨L3, L4, h3, h4, rfl, hd'⟩, rfl, hd⟩
  refine ⟨L3 ++ (L1 ++ L4), ⟨L3, L1 ++ L4, h3, ⟨L1, L4, h1, h4, rfl, fun k hk h => hd k hk (by simp [h])⟩, rfl, ?_⟩, fun k hk => by simp at hk ⊢; rcases hk with h | h | h <;> simp [h]⟩
  intro k hk h
  rcases List.mem_append.1 h with h | h
  · exact hd k h (by simp [hk])
  · exact hd' k hk h
theorem ent_drop (R S : Res) : Ent (star R S) S := by
  rintro w L ⟨L1, L2, h1, h2, rfl, hd⟩
  exact ⟨L2, h2, fun k hk => by simp [hk]⟩
theorem Top.ent {w0 w : World} {R S : Res} (h : Top w0 R w) (he : Ent R S) : Top w0 S w := by
  obtain ⟨L, h1, h2, h3⟩ := h
  obtain ⟨L', g1, g2⟩ := he w L h1
  exact ⟨L', g1, h2, fun k hk => h3 k (g2 k hk)⟩
theorem Top.swap2 {w0 w : World} {A R S U : Res} (h : Top w0 (star A (star R (star S U))) w) : Top w0 (star A (star S (star R U))) w := h.ent ((ent_swap R S U).under A)
theorem Top.drop3 {w0 w : World} {A R S U : Res} (h : Top w0 (star A (star R (star S U))) w) : Top w0 (star A (star R U)) w := h.ent (((ent_drop S U).under R).under A)

end Go.Proofs.Ytocfeeecgpklnaa
