/- The frame of a contract: which blocks may have been written ('Mod'), what a block holds ('Blk'). No program in sight. -/
import Derived.WalkKit
import Derived.WalkSpells
import Derived.WalkLawsBesides
import Derived.Deep.LoopGhost
import Derived.Handy
namespace Go.Proofs.Ytocfeeecgpklnaa
open Go.RowKit

theorem hid {p : Prop} (h : p) : Hid p := h
theorem ret_int {k : IntKind} {a b : Int} (h : a = b) : Ending.returned (.int k a) = .returned (.int k b) := by rw [h]
theorem ret_bool {a b : Bool} (h : a = b) : Ending.returned (.bool a) = .returned (.bool b) := by rw [h]
theorem ret_val {a b : Value} (h : a = b) : Ending.returned a = .returned b := by rw [h]

/-- A block holds these cells, of this element type, none of them frozen. -/
def Blk (w : World) (b : Nat) (c : Array Value) (T : TypeId) : Prop := w.heap[b]? = some (.cells c T (0, 0))

theorem Blk.lt {w : World} {b : Nat} {c : Array Value} {T : TypeId} (h : Blk w b c T) : b < w.heap.size := lt_of_block h
theorem Blk.cell {w : World} {b : Nat} {c : Array Value} {T : TypeId} (h : Blk w b c T) (i : Nat) : w.cell? ⟨b, i, none⟩ = c[i]? := by
  unfold Blk at h
  simp [World.cell?, h]
theorem Blk.free {w : World} {b : Nat} {c : Array Value} {T : TypeId} (h : Blk w b c T) (i : Nat) : w.frozen? ⟨b, i, none⟩ = false := by
  unfold Blk at h
  simp [World.frozen?, h]
theorem Blk.new (w : World) (c : Array Value) (T : TypeId) : Blk (w.alloc (.cells c T)) w.heap.size c T := by
  show (w.heap.push _)[w.heap.size]? = _
  simp
theorem Blk.alloc {w : World} {b : Nat} {c : Array Value} {T : TypeId} (h : Blk w b c T) (o : Obj) : Blk (w.alloc o) b c T := by
  have := h.lt
  unfold Blk at h ⊢
  rw [Below.heap_alloc _ _ _ this]; exact h
theorem Blk.set {w : World} {b : Nat} {c : Array Value} {T : TypeId} (h : Blk w b c T) (i : Nat) (v : Value) : Blk (w.setCell ⟨b, i, none⟩ v) b (c.setIfInBounds i v) T := by
  unfold Blk at h ⊢
  show (w.heap.modify b _)[b]? = _
  rw [Array.getElem?_modify, if_pos rfl, h]
  rfl
theorem Blk.setSame {w : World} {b : Nat} {c : Array Value} {T : TypeId} (h : Blk w b c T) (i : Nat) (v : Value) (hv : c[i]? = some v) : w.setCell ⟨b, i, none⟩ v = w := by
  unfold Blk at h
  have e : (w.heap.modify b fun
      | .cells c elem frozen => .cells (if (⟨b, i, none⟩ : Addr).spot.isSome then c else c.setIfInBounds i v) elem frozen
      | o => o) = w.heap := by
    apply Array.ext_getElem?
    intro k
    rw [Array.getElem?_modify]
    split
    · rename_i hk
      subst hk
      rw [h]
      have e2 : c.setIfInBounds i v = c := by
        apply Array.ext_getElem?
        intro j
        rw [Array.getElem?_setIfInBounds]
        split
        · rename_i hj
          subst hj
          rw [hv]
          have : i < c.size := (Array.getElem?_eq_some_iff.1 hv).1
          simp [this]
        · rfl
      simp [e2]
    · rfl
  cases w
  simp only [World.setCell]
  congr 1
theorem Blk.other {w : World} {b : Nat} {c : Array Value} {T : TypeId} (h : Blk w b c T) {a : Addr} (ha : b ≠ a.block) (v : Value) : Blk (w.setCell a v) b c T := by
  unfold Blk at h ⊢
  rw [Below.heap_setCell _ _ _ _ ha]; exact h
theorem Blk.drew {w : World} {b : Nat} {c : Array Value} {T : TypeId} (h : Blk w b c T) : Blk w.drew b c T := h
theorem Blk.inj {w : World} {b : Nat} {c c' : Array Value} {T T' : TypeId} (h : Blk w b c T) (h' : Blk w b c' T') : c = c' := by
  unfold Blk at h h'
  rw [h] at h'
  simp only [Option.some.injEq, Obj.cells.injEq] at h'
  exact h'.1

/-- Only the blocks of l may have been written; new ones may have come. -/
structure Mod (l : List Nat) (w w' : World) : Prop where
  os : w'.os = w.os
  tape : w'.tape = w.tape
  output : w'.output = w.output
  size : w.heap.size ≤ w'.heap.size
  block : ∀ k, k < w.heap.size → k ∉ l → w'.heap[k]? = w.heap[k]?

theorem Mod.refl (l : List Nat) (w : World) : Mod l w w := ⟨rfl, rfl, rfl, Nat.le_refl _, fun _ _ _ => rfl⟩
/-- Two steps; of the second one's blocks only those count that were there at the beginning. -/
theorem Mod.trans {l l' m : List Nat} {a b c : World} (h : Mod l a b) (k : Mod l' b c) (h1 : ∀ x, x ∈ l → x < a.heap.size → x ∈ m) (h2 : ∀ x, x ∈ l' → x < a.heap.size → x ∈ m) : Mod m a c :=
  ⟨k.os.trans h.os, k.tape.trans h.tape, k.output.trans h.output, Nat.le_trans h.size k.size, fun i hi hm =>
    (k.block i (Nat.lt_of_lt_of_le hi h.size) (fun x => hm (h2 _ x hi))).trans (h.block i hi (fun x => hm (h1 _ x hi)))⟩
theorem Mod.tr {l : List Nat} {a b c : World} (h : Mod l a b) (k : Mod l b c) : Mod l a c := h.trans k (fun _ x _ => x) (fun _ x _ => x)
theorem Mod.mono {l m : List Nat} {a b : World} (h : Mod l a b) (h1 : ∀ x, x ∈ l → x < a.heap.size → x ∈ m) : Mod m a b :=
  ⟨h.os, h.tape, h.output, h.size, fun i hi hm => h.block i hi (fun x => hm (h1 _ x hi))⟩
theorem Mod.alloc {l : List Nat} {a w : World} (h : Mod l a w) (o : Obj) : Mod l a (w.alloc o) :=
  h.tr ⟨rfl, rfl, rfl, by simp, fun k hk _ => Below.heap_alloc _ _ _ hk⟩
theorem Mod.setCell {l : List Nat} {a w : World} (h : Mod l a w) {p : Addr} (hp : p.block ∈ l ∨ a.heap.size ≤ p.block) (v : Value) : Mod l a (w.setCell p v) :=
  h.trans (l' := [p.block]) ⟨rfl, rfl, rfl, by simp [World.setCell], fun k _ hk => Below.heap_setCell _ _ _ _ (by simpa using hk)⟩ (fun _ x _ => x) (by intro x hx hlt; simp at hx; subst hx; rcases hp with h | h; exact h; omega)
theorem Mod.drew {l : List Nat} {a w : World} (h : Mod l a w) : Mod l a w.drew := ⟨h.os, h.tape, h.output, h.size, h.block⟩
theorem Mod.drewN {l : List Nat} {a w : World} (h : Mod l a w) (n : Nat) : Mod l a (w.drewN n) := h.tr ⟨rfl, rfl, rfl, Nat.le_refl _, fun _ _ _ => rfl⟩
theorem Mod.below {l : List Nat} {B : Nat} {a w : World} (h : Mod l a w) (hB : B ≤ a.heap.size) (hl : ∀ x, x ∈ l → B ≤ x) : Below B a w :=
  ⟨h.os, h.tape, h.output, h.size, fun k hk => h.block k (by omega) (fun x => by have := hl _ x; omega)⟩
theorem Mod.of_below {a w : World} (h : Below a.heap.size a w) : Mod [] a w := ⟨h.os, h.tape, h.output, h.size, fun k hk _ => h.block k hk⟩
theorem Mod.grown {l : List Nat} {a w w' : World} {row : Option Nat} (h : Mod l a w) (hg : w.grownBy w' row) (hr : ∀ k, row = some k → k ∈ l ∨ a.heap.size ≤ k) : Mod l a w' :=
  h.trans (l' := row.toList) ⟨hg.os, hg.tape, hg.output, hg.size, fun k hk hn => hg.block k hk (fun e => hn (by rw [← e]; simp))⟩ (fun _ x _ => x) (by
    intro x hx hlt
    simp at hx
    rcases hr x hx with h | h
    · exact h
    · omega)
/-- A block that may not have been written holds what it held. -/
theorem Mod.blk {l : List Nat} {w w' : World} {b : Nat} {c : Array Value} {T : TypeId} (h : Mod l w w') (hb : Blk w b c T) (hn : b ∉ l) : Blk w' b c T := by
  have := hb.lt
  unfold Blk at hb ⊢
  rw [h.block b this hn]; exact hb
theorem Mod.cell {l : List Nat} {w w' : World} (h : Mod l w w') {p : Addr} (hp : p.block < w.heap.size) (hn : p.block ∉ l) : w'.cell? p = w.cell? p := World.cell?_of_block (w := w) (h.block p.block hp hn)
theorem Mod.frozen {l : List Nat} {w w' : World} (h : Mod l w w') {p : Addr} (hp : p.block < w.heap.size) (hn : p.block ∉ l) : w'.frozen? p = w.frozen? p := World.frozen?_of_block (w := w) (h.block p.block hp hn)

/-- A cell that is there lies in a block that is there. -/
theorem lt_of_cell {w : World} {a : Addr} {v : Value} (h : w.cell? a = some v) : a.block < w.heap.size := by
  unfold World.cell? at h
  rcases Nat.lt_or_ge a.block w.heap.size with h' | h'
  · exact h'
  · rw [Array.getElem?_eq_none h'] at h; cases h
theorem Mod.cellSome {l : List Nat} {w w' : World} (h : Mod l w w') {p : Addr} {v : Value} (hc : w.cell? p = some v) (hn : p.block ∉ l) : w'.cell? p = some v := by
  rw [h.cell (lt_of_cell hc) hn]; exact hc

end Go.Proofs.Ytocfeeecgpklnaa
