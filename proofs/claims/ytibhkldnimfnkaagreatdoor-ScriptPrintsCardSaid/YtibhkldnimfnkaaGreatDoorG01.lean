/- Script: parts K1 K2 K3 K4 K5 I0 K6 K7 K8 K9 H1. -/
import Derived.WalkKit
import Derived.WalkSpells
import Derived.WalkLawsBesides
import Derived.Deep.LoopGhost
import Derived.Handy
import Derived.Laws.CopyOwn
import Derived.Deep.RegionLaw
import Derived.Deep.CutRange
import Derived.Deep.CutBlock
import Derived.BigQuiet
import Derived.Deep.QuietTactic
import Derived.Lib.SliceRun
import Derived.Test.YtibhkldnimfnkaaGreatDoorRows
import Derived.Deep.Slices
import Derived.Deep.Strs
import Derived.ChangeSame
import Derived.ProofKit
import Derived.Lib.AppendZerosOnto
import Derived.Lib.AppendZeros
import Derived.Lib.Overlaps
import Derived.OrdersHeld
import Derived.Deep.RegionHeld

/- The frame of a contract: which blocks may have been written ('Mod'), what a block holds ('Blk'). No program in sight. -/
namespace Go.Proofs.YtibhkldnimfnkaaGreatDoor
section
open Go.RowKit

theorem hid {p : Prop} (h : p) : Hid p := h
theorem ret_int {k : IntKind} {a b : Int} (h : a = b) : Ending.returned (.int k a) = .returned (.int k b) := by rw [h]
theorem ret_bool {a b : Bool} (h : a = b) : Ending.returned (.bool a) = .returned (.bool b) := by rw [h]
theorem ret_val {a b : Value} (h : a = b) : Ending.returned a = .returned b := by rw [h]

/-- A block holds these cells, of this element type, none of them frozen. -/
def Blk (w : World) (b : Nat) (c : Array Value) (T : TypeId) : Prop := w.heap[b]? = some (.cells c T (0, 0))

theorem Blk.lt {w : World} {b : Nat} {c : Array Value} {T : TypeId} (h : Blk w b c T) : b < w.heap.size := lt_of_block h
theorem Blk.cell {w : World} {b : Nat} {c : Array Value} {T : TypeId} (h : Blk w b c T) (i : Nat) : w.cell? ⟨b, i, none⟩ = c[i]? := by
  unfold Blk at h
  simp [World.cell?, h]
theorem Blk.free {w : World} {b : Nat} {c : Array Value} {T : TypeId} (h : Blk w b c T) (i : Nat) : w.frozen? ⟨b, i, none⟩ = false := by
  unfold Blk at h
  simp [World.frozen?, h]
theorem Blk.new (w : World) (c : Array Value) (T : TypeId) : Blk (w.alloc (.cells c T)) w.heap.size c T := by
  show (w.heap.push _)[w.heap.size]? = _
  simp
theorem Blk.alloc {w : World} {b : Nat} {c : Array Value} {T : TypeId} (h : Blk w b c T) (o : Obj) : Blk (w.alloc o) b c T := by
  have := h.lt
  unfold Blk at h ⊢
  rw [Below.heap_alloc _ _ _ this]; exact h
theorem Blk.set {w : World} {b : Nat} {c : Array Value} {T : TypeId} (h : Blk w b c T) (i : Nat) (v : Value) : Blk (w.setCell ⟨b, i, none⟩ v) b (c.setIfInBounds i v) T := by
  unfold Blk at h ⊢
  show (w.heap.modify b _)[b]? = _
  rw [Array.getElem?_modify, if_pos rfl, h]
  rfl
theorem Blk.setSame {w : World} {b : Nat} {c : Array Value} {T : TypeId} (h : Blk w b c T) (i : Nat) (v : Value) (hv : c[i]? = some v) : w.setCell ⟨b, i, none⟩ v = w := by
  unfold Blk at h
  have e : (w.heap.modify b fun
      | .cells c elem frozen => .cells (if (⟨b, i, none⟩ : Addr).spot.isSome then c else c.setIfInBounds i v) elem frozen
      | o => o) = w.heap := by
    apply Array.ext_getElem?
    intro k
    rw [Array.getElem?_modify]
    split
    · rename_i hk
      subst hk
      rw [h]
      have e2 : c.setIfInBounds i v = c := by
        apply Array.ext_getElem?
        intro j
        rw [Array.getElem?_setIfInBounds]
        split
        · rename_i hj
          subst hj
          rw [hv]
          have : i < c.size := (Array.getElem?_eq_some_iff.1 hv).1
          simp [this]
        · rfl
      simp [e2]
    · rfl
  cases w
  simp only [World.setCell]
  congr 1
theorem Blk.other {w : World} {b : Nat} {c : Array Value} {T : TypeId} (h : Blk w b c T) {a : Addr} (ha : b ≠ a.block) (v : Value) : Blk (w.setCell a v) b c T := by
  unfold Blk at h ⊢
  rw [Below.heap_setCell _ _ _ _ ha]; exact h
theorem Blk.drew {w : World} {b : Nat} {c : Array Value} {T : TypeId} (h : Blk w b c T) : Blk w.drew b c T := h
theorem Blk.inj {w : World} {b : Nat} {c c' : Array Value} {T T' : TypeId} (h : Blk w b c T) (h' : Blk w b c' T') : c = c' := by
  unfold Blk at h h'
  rw [h] at h'
  simp only [Option.some.injEq, Obj.cells.injEq] at h'
  exact h'.1

/-- Only the blocks of l may have been written; new ones may have come. -/
structure Mod (l : List Nat) (w w' : World) : Prop where
  os : w'.os = w.os
  tape : w'.tape = w.tape
  output : w'.output = w.output
  size : w.heap.size ≤ w'.heap.size
  block : ∀ k, k < w.heap.size → k ∉ l → w'.heap[k]? = w.heap[k]?

theorem Mod.refl (l : List Nat) (w : World) : Mod l w w := ⟨rfl, rfl, rfl, Nat.le_refl _, fun _ _ _ => rfl⟩
/-- Two steps; of the second one's blocks only those count that were there at the beginning. -/
theorem Mod.trans {l l' m : List Nat} {a b c : World} (h : Mod l a b) (k : Mod l' b c) (h1 : ∀ x, x ∈ l → x < a.heap.size → x ∈ m) (h2 : ∀ x, x ∈ l' → x < a.heap.size → x ∈ m) : Mod m a c :=
  ⟨k.os.trans h.os, k.tape.trans h.tape, k.output.trans h.output, Nat.le_trans h.size k.size, fun i hi hm =>
    (k.block i (Nat.lt_of_lt_of_le hi h.size) (fun x => hm (h2 _ x hi))).trans (h.block i hi (fun x => hm (h1 _ x hi)))⟩
theorem Mod.tr {l : List Nat} {a b c : World} (h : Mod l a b) (k : Mod l b c) : Mod l a c := h.trans k (fun _ x _ => x) (fun _ x _ => x)
theorem Mod.mono {l m : List Nat} {a b : World} (h : Mod l a b) (h1 : ∀ x, x ∈ l → x < a.heap.size → x ∈ m) : Mod m a b :=
  ⟨h.os, h.tape, h.output, h.size, fun i hi hm => h.block i hi (fun x => hm (h1 _ x hi))⟩
theorem Mod.alloc {l : List Nat} {a w : World} (h : Mod l a w) (o : Obj) : Mod l a (w.alloc o) :=
  h.tr ⟨rfl, rfl, rfl, by simp, fun k hk _ => Below.heap_alloc _ _ _ hk⟩
theorem Mod.setCell {l : List Nat} {a w : World} (h : Mod l a w) {p : Addr} (hp : p.block ∈ l ∨ a.heap.size ≤ p.block) (v : Value) : Mod l a (w.setCell p v) :=
  h.trans (l' := [p.block]) ⟨rfl, rfl, rfl, by simp [World.setCell], fun k _ hk => Below.heap_setCell _ _ _ _ (by simpa using hk)⟩ (fun _ x _ => x) (by intro x hx hlt; simp at hx; subst hx; rcases hp with h | h; exact h; omega)
theorem Mod.drew {l : List Nat} {a w : World} (h : Mod l a w) : Mod l a w.drew := ⟨h.os, h.tape, h.output, h.size, h.block⟩
theorem Mod.drewN {l : List Nat} {a w : World} (h : Mod l a w) (n : Nat) : Mod l a (w.drewN n) := h.tr ⟨rfl, rfl, rfl, Nat.le_refl _, fun _ _ _ => rfl⟩
theorem Mod.below {l : List Nat} {B : Nat} {a w : World} (h : Mod l a w) (hB : B ≤ a.heap.size) (hl : ∀ x, x ∈ l → B ≤ x) : Below B a w :=
  ⟨h.os, h.tape, h.output, h.size, fun k hk => h.block k (by omega) (fun x => by have := hl _ x; omega)⟩
theorem Mod.of_below {a w : World} (h : Below a.heap.size a w) : Mod [] a w := ⟨h.os, h.tape, h.output, h.size, fun k hk _ => h.block k hk⟩
theorem Mod.grown {l : List Nat} {a w w' : World} {row : Option Nat} (h : Mod l a w) (hg : w.grownBy w' row) (hr : ∀ k, row = some k → k ∈ l ∨ a.heap.size ≤ k) : Mod l a w' :=
  h.trans (l' := row.toList) ⟨hg.os, hg.tape, hg.output, hg.size, fun k hk hn => hg.block k hk (fun e => hn (by rw [← e]; simp))⟩ (fun _ x _ => x) (by
    intro x hx hlt
    simp at hx
    rcases hr x hx with h | h
    · exact h
    · omega)
/-- A block that may not have been written holds what it held. -/
theorem Mod.blk {l : List Nat} {w w' : World} {b : Nat} {c : Array Value} {T : TypeId} (h : Mod l w w') (hb : Blk w b c T) (hn : b ∉ l) : Blk w' b c T := by
  have := hb.lt
  unfold Blk at hb ⊢
  rw [h.block b this hn]; exact hb
theorem Mod.cell {l : List Nat} {w w' : World} (h : Mod l w w') {p : Addr} (hp : p.block < w.heap.size) (hn : p.block ∉ l) : w'.cell? p = w.cell? p := World.cell?_of_block (w := w) (h.block p.block hp hn)
theorem Mod.frozen {l : List Nat} {w w' : World} (h : Mod l w w') {p : Addr} (hp : p.block < w.heap.size) (hn : p.block ∉ l) : w'.frozen? p = w.frozen? p := World.frozen?_of_block (w := w) (h.block p.block hp hn)

/-- A cell that is there lies in a block that is there. -/
theorem lt_of_cell {w : World} {a : Addr} {v : Value} (h : w.cell? a = some v) : a.block < w.heap.size := by
  unfold World.cell? at h
  rcases Nat.lt_or_ge a.block w.heap.size with h' | h'
  · exact h'
  · rw [Array.getElem?_eq_none h'] at h; cases h
theorem Mod.cellSome {l : List Nat} {w w' : World} (h : Mod l w w') {p : Addr} {v : Value} (hc : w.cell? p = some v) (hn : p.block ∉ l) : w'.cell? p = some v := by
  rw [h.cell (lt_of_cell hc) hn]; exact hc
end
end Go.Proofs.YtibhkldnimfnkaaGreatDoor

/- The builtin copy as a law: out of a string or a slice into a block that is known whole. No program in sight. -/
namespace Go.Proofs.YtibhkldnimfnkaaGreatDoor
section
open Go.RowKit

/-- The bytes of a string, as cells. -/
def bytesV (l : List UInt8) : List Value := l.map fun c => Value.int .u8 c.toNat

/-- What a copy or an append reads out of its second operand: how many elements it has, and the first n cells. -/
structure Src (P : Program) (w : World) (x : Value) (size m : Nat) (cs : List Value) : Prop where
  len : (Builtin.lenOf x).run P w = .ok m w
  cells : ∀ n, n ≤ m → (Builtin.firstCells size n x).run P w = .ok (cs.take (n * size)).toArray w
  all : cs.length = m * size

theorem Src.string (P : Program) (w : World) (s : ByteArray) : Src P w (.string s) 1 s.size (bytesV s.data.toList) := by
  refine ⟨rfl, fun n _ => ?_, by simp [bytesV]⟩
  show Result.ok _ w = _
  congr 1
  apply Array.toList_inj.1
  simp [bytesV]

theorem Src.slice {P : Program} {w : World} {b off size m cap : Nat} {cs : List Value} (hc : ∀ i, i < cs.length → w.cell? ⟨b, off + i, none⟩ = cs[i]?) (hl : cs.length = m * size) : Src P w (.slice (some ⟨b, off, none⟩) m cap) size m cs := by
  refine ⟨rfl, fun n hn => ?_, hl⟩
  have := run_loadCells_list (P := P) w ⟨b, off, none⟩ (cs.take (n * size)) (fun j v hj => by
    have hj2 : j < (cs.take (n * size)).length := by
      rcases Nat.lt_or_ge j (cs.take (n * size)).length with h | h
      · exact h
      · rw [List.getElem?_eq_none h] at hj; cases hj
    have hadd : (⟨b, off, none⟩ : Addr).add j = ⟨b, off + j, none⟩ := by unfold Addr.add; split <;> simp_all
    rw [hadd, hc j (by simp at hj2; omega)]
    rw [List.getElem?_take] at hj
    split at hj
    · exact hj
    · cases hj)
  have hm : n * size ≤ m * size := Nat.mul_le_mul_right _ hn
  have e : (cs.take (n * size)).length = n * size := by simp; omega
  rw [e] at this
  exact this

theorem Src.nil (P : Program) (w : World) (size cap : Nat) : Src P w (.slice none 0 cap) size 0 [] := ⟨rfl, fun n hn => by
  show Result.ok _ w = _
  simp, by simp⟩

theorem bytesV_one (l : List UInt8) : ∀ v ∈ bytesV l, v.oneCell' = true := by
  intro v hv
  simp [bytesV] at hv
  obtain ⟨c, _, rfl⟩ := hv
  rfl
theorem bytesV_len (l : List UInt8) : (bytesV l).length = l.length := by simp [bytesV]
theorem take_all {α : Type} (l : List α) (a b : Nat) (h1 : l.length ≤ a) (h2 : l.length ≤ b) : l = l.take (Nat.min a b) := by
  rw [List.take_of_length_le (Nat.le_min.2 ⟨h1, h2⟩)]

section
variable {P : Program} {w : World}

/-- copy, run. -/
theorem run_copy_src (dT sT ty elem : TypeId) (dp : Option Addr) (dLen dCap : Nat) (x : Value) (m : Nat) (xs : List Value) (hu : P.underlying dT = some (.slice elem)) (hsz : (P.info? elem).map (·.size) = some 1)
    (hx : Src P w x 1 m xs) (g off : Nat) (cur : List Value) (t : TypeId) (hg : Blk w g cur.toArray t) (cs : List Value) (hcs : cs = xs.take (Nat.min m dLen))
    (hpos : 0 < cs.length → dp = some ⟨g, off, none⟩) (hfit : off + cs.length ≤ cur.length) (h1 : ∀ v ∈ cs, v.oneCell' = true) :
    ∃ w', (Builtin.copy_ #[dT, sT] ty #[.slice dp dLen dCap, x]).run P w = .ok (goInt cs.length) w' ∧ Blk w' g (splice cur off cs).toArray t ∧ Mod [g] w w' := by
  have hn : cs.length = Nat.min m dLen := by
    have := hx.all
    rw [hcs, List.length_take]
    have : Nat.min m dLen ≤ m := Nat.min_le_left _ _
    omega
  have hc := hx.cells (Nat.min m dLen) (Nat.min_le_left _ _)
  rw [Nat.mul_one, ← hcs, ← hn] at hc
  cases hq : P.info? elem with
  | none => simp [hq] at hsz
  | some i =>
    have hi : i.size = 1 := by simpa [hq] using hsz
    cases dp with
    | none =>
      have h0 : cs.length = 0 := by
        rcases Nat.eq_zero_or_pos cs.length with h | h
        · exact h
        · cases hpos h
      obtain rfl : cs = [] := List.eq_nil_of_length_eq_zero h0
      simp only [List.length_nil] at hc hn
      refine ⟨w, ?_, ?_, Mod.refl _ _⟩
      · simp [Builtin.copy_, run_underlying hu, sizeOf, typeInfo, hq, hi, hx.len, hc, ← hn]
      · have e : splice cur off ([] : List Value) = cur := by simp [splice]
        rw [e]; exact hg
    | some ad =>
      by_cases h0 : cs.length = 0
      · obtain rfl : cs = [] := List.eq_nil_of_length_eq_zero h0
        simp only [List.length_nil] at hc hn
        refine ⟨w, ?_, ?_, Mod.refl _ _⟩
        · simp [Builtin.copy_, run_underlying hu, sizeOf, typeInfo, hq, hi, hx.len, hc, ← hn, storeCells]
        · have e : splice cur off ([] : List Value) = cur := by simp [splice]
          rw [e]; exact hg
      · have hp := hpos (by omega)
        simp only [Option.some.injEq] at hp
        subst hp
        have hst := run_storeCells_at P g off t cs 0 cur.toArray w hg (by simpa using hfit) h1
        refine ⟨w.setRow g (splice cur off cs).toArray, ?_, setRow_heap w g _ _ t _ hg, ⟨rfl, rfl, rfl, by simp, fun k _ hk => setRow_other w g k _ (by simpa using hk)⟩⟩
        simp [Builtin.copy_, run_underlying hu, sizeOf, typeInfo, hq, hi, hx.len, hc, ← hn, hst, splice]

/-- copy as a step of a region that draws its order. -/
theorem step_copy_src {ops : Array Oper} {o : Oper} {a : Act} {K : Act → World → Prop} {Q : Exit → Act → World → Prop} {E : Prop} (hgd : o.guard = none) (d s : Operand) (dT sT : TypeId)
    (ho : o.op = .call { callee := .builtin .copy, args := #[d, s], argTypes := #[dT, sT] }) (elem : TypeId) (hu : P.underlying dT = some (.slice elem)) (hsz : (P.info? elem).map (·.size) = some 1)
    (dp : Option Addr) (dLen dCap : Nat) (hd : a.eval d = .slice dp dLen dCap) (x : Value) (hs : a.eval s = x) (m : Nat) (xs : List Value) (hx : Src P w x 1 m xs)
    (g off : Nat) (cur : List Value) (t : TypeId) (hg : Blk w g cur.toArray t) (cs : List Value) (hcs : cs = xs.take (Nat.min m dLen))
    (hpos : 0 < cs.length → dp = some ⟨g, off, none⟩) (hfit : off + cs.length ≤ cur.length) (h1 : ∀ v ∈ cs, v.oneCell' = true) (n : Nat) (hn : cs.length = n)
    (h : ∀ w', Hid (Blk w' g (splice cur off cs).toArray t) → Hid (Mod [g] w w') → K (a.put o.dst (goInt n)) w') :
    if Region.wanted o (yielded ops a.tmps) = true then Oper.wp P o a w K Q else E := by
  have hw : Region.wanted o (yielded ops a.tmps) = true := by simp [Region.wanted, hgd]
  rw [if_pos hw]
  subst hn
  obtain ⟨w', hrun, hb, hm⟩ := run_copy_src dT sT o.type elem dp dLen dCap x m xs hu hsz hx g off cur t hg cs hcs hpos hfit h1
  unfold Oper.wp
  simp [execOp, ho, resolve, invoke, builtin, hd, hs, hrun, Result.andThen]
  exact h w' hb hm

/-- copy in a list of operations. -/
theorem wpList_copy_src {ops : Array Oper} {rest : List Oper} {o : Oper} {a : Act} {Q : Exit → Act → World → Prop} (hgd : o.guard = none) (d s : Operand) (dT sT : TypeId)
    (ho : o.op = .call { callee := .builtin .copy, args := #[d, s], argTypes := #[dT, sT] }) (elem : TypeId) (hu : P.underlying dT = some (.slice elem)) (hsz : (P.info? elem).map (·.size) = some 1)
    (dp : Option Addr) (dLen dCap : Nat) (hd : a.eval d = .slice dp dLen dCap) (x : Value) (hs : a.eval s = x) (m : Nat) (xs : List Value) (hx : Src P w x 1 m xs)
    (g off : Nat) (cur : List Value) (t : TypeId) (hg : Blk w g cur.toArray t) (cs : List Value) (hcs : cs = xs.take (Nat.min m dLen))
    (hpos : 0 < cs.length → dp = some ⟨g, off, none⟩) (hfit : off + cs.length ≤ cur.length) (h1 : ∀ v ∈ cs, v.oneCell' = true) (n : Nat) (hn : cs.length = n)
    (h : ∀ w', Hid (Blk w' g (splice cur off cs).toArray t) → Hid (Mod [g] w w') → wpList P ops Q rest (a.put o.dst (goInt n)) w') :
    wpList P ops Q (o :: rest) a w := by
  subst hn
  obtain ⟨w', hrun, hb, hm⟩ := run_copy_src dT sT o.type elem dp dLen dCap x m xs hu hsz hx g off cur t hg cs hcs hpos hfit h1
  refine wpList_plain hgd fun K hK => ?_
  unfold Oper.wp
  simp [execOp, ho, resolve, invoke, builtin, hd, hs, hrun, Result.andThen]
  exact hK _ _ (h w' hb hm)
end

/-- make([]T, n), T of one cell: n zeros. -/
theorem run_make_zeros {P : Program} (w : World) (t e : TypeId) (i : TypeInfo) (z : Value) (ht : P.underlying t = some (.slice e)) (hi : P.info? e = some i) (hz : i.zero = some z) (h1 : i.size = 1) (hz1 : z.cells = #[z])
    (kl kc : IntKind) (c : Int) (L : Nat) (hc : c = L) (hbytes : i.bytes * L ≤ 281474976710656) (h63 : L ≤ 9223372036854775807) :
    (Instr.makeSlice t (.int kl c) (.int kc c)).run P w = .ok (.slice (some ⟨w.heap.size, 0, none⟩) L L) (w.alloc (.cells (List.replicate L z).toArray e)) := by
  subst hc
  have hb' : (i.bytes : Int) * (L : Int) ≤ 281474976710656 := by
    have h : ((i.bytes * L : Nat) : Int) ≤ 281474976710656 := by omega
    rwa [Int.natCast_mul] at h
  have hr := run_make (P := P) w t e i z ht hi hz kl kc L L (by omega) (by omega) hb' (by omega)
  rw [hr, h1, hz1]
  have e : madeCells #[z] ((L : Int).toNat * 1) = (List.replicate L z).toArray := by
    apply Array.toList_inj.1
    simp [madeCells, Nat.mod_one]
    apply List.ext_getElem
    · simp
    · intro k h1 h2; simp
  rw [e]; simp
end
end Go.Proofs.YtibhkldnimfnkaaGreatDoor

/- A slice that the program owns, and a slice that is read: append as a law that says which blocks the new value has. No program in sight. -/
namespace Go.Proofs.YtibhkldnimfnkaaGreatDoor
section
open Go.RowKit

/-- The value is a slice of n elements (sz cells each), which hold xs; what it may grow into is its own: block L, from its head on. -/
def Own (w : World) (E : TypeId) (sz : Nat) (v : Value) (n : Nat) (xs : List Value) (L : List Nat) : Prop :=
  xs.length = n * sz ∧ ((v = .slice none 0 0 ∧ n = 0 ∧ L = []) ∨
    ∃ g cap cur, v = .slice (some ⟨g, 0, none⟩) n cap ∧ L = [g] ∧ Blk w g cur E ∧ n ≤ cap ∧ cap ≤ maxLen ∧ cap * sz ≤ cur.size ∧ cur.toList.take (n * sz) = xs)

/-- The value is a slice of n elements, which hold xs: to be read. -/
def Rdl (w : World) (sz : Nat) (v : Value) (n : Nat) (xs : List Value) : Prop :=
  xs.length = n * sz ∧ ((v = .slice none 0 0 ∧ n = 0) ∨ ∃ b off cap, v = .slice (some ⟨b, off, none⟩) n cap ∧ ∀ j, j < n * sz → w.cell? ⟨b, off + j, none⟩ = xs[j]?)

theorem Own.nil (w : World) (E : TypeId) (sz : Nat) : Own w E sz (.slice none 0 0) 0 [] [] := ⟨by simp, Or.inl ⟨rfl, rfl, rfl⟩⟩

theorem Own.lt {w : World} {E : TypeId} {sz : Nat} {v : Value} {n : Nat} {xs : List Value} {L : List Nat} (h : Own w E sz v n xs L) : ∀ k ∈ L, k < w.heap.size := by
  intro k hk
  rcases h.2 with ⟨_, _, rfl⟩ | ⟨g, cap, cur, _, rfl, hb, _⟩
  · cases hk
  · simp at hk; subst hk; exact hb.lt

theorem Own.mod {w w' : World} {E : TypeId} {sz : Nat} {v : Value} {n : Nat} {xs : List Value} {L M : List Nat} (h : Own w E sz v n xs L) (hm : Mod M w w') (hd : ∀ k ∈ L, k ∉ M) : Own w' E sz v n xs L := by
  refine ⟨h.1, ?_⟩
  rcases h.2 with h0 | ⟨g, cap, cur, h1, h2, hb, h3⟩
  · exact Or.inl h0
  · exact Or.inr ⟨g, cap, cur, h1, h2, hm.blk hb (hd g (by rw [h2]; simp)), h3⟩

theorem Own.len {w : World} {E : TypeId} {sz : Nat} {v : Value} {n : Nat} {xs : List Value} {L : List Nat} (h : Own w E sz v n xs L) : n ≤ 9223372036854775807 := by
  rcases h.2 with ⟨_, rfl, _⟩ | ⟨g, cap, cur, _, _, _, h1, h2, _⟩
  · omega
  · simp [maxLen] at h2; omega

/-- Its shape, as a value. -/
theorem Own.val {w : World} {E : TypeId} {sz : Nat} {v : Value} {n : Nat} {xs : List Value} {L : List Nat} (h : Own w E sz v n xs L) : ∃ a cap, v = .slice a n cap ∧ n ≤ cap ∧ cap ≤ 9223372036854775807 ∧ (0 < n → ∃ g, a = some ⟨g, 0, none⟩ ∧ L = [g] ∧ ∀ j, j < n * sz → w.cell? ⟨g, j, none⟩ = xs[j]?) := by
  rcases h.2 with ⟨rfl, rfl, rfl⟩ | ⟨g, cap, cur, rfl, rfl, hb, h1, h2, h3, h4⟩
  · exact ⟨none, 0, rfl, by omega, by omega, fun h => by omega⟩
  · refine ⟨_, cap, rfl, h1, by simpa [maxLen] using h2, fun _ => ⟨g, rfl, rfl, fun j hj => ?_⟩⟩
    rw [hb.cell, ← h4, List.getElem?_take, if_pos hj]
    simp

/-- Read from here to there. -/
theorem Own.rdl {w : World} {E : TypeId} {sz : Nat} {v : Value} {n : Nat} {xs : List Value} {L : List Nat} (h : Own w E sz v n xs L) : Rdl w sz v n xs := by
  refine ⟨h.1, ?_⟩
  rcases h.2 with ⟨rfl, rfl, rfl⟩ | ⟨g, cap, cur, rfl, rfl, hb, h1, h2, h3, h4⟩
  · exact Or.inl ⟨rfl, rfl⟩
  · refine Or.inr ⟨g, 0, cap, rfl, fun j hj => ?_⟩
    rw [Nat.zero_add, hb.cell, ← h4, List.getElem?_take, if_pos hj]
    simp

theorem Rdl.mod {w w' : World} {sz : Nat} {v : Value} {n : Nat} {xs : List Value} {M : List Nat} (h : Rdl w sz v n xs) (hm : Mod M w w') (hd : ∀ b off cap, v = .slice (some ⟨b, off, none⟩) n cap → b ∉ M) : Rdl w' sz v n xs := by
  refine ⟨h.1, ?_⟩
  rcases h.2 with h0 | ⟨b, off, cap, hv, hc⟩
  · exact Or.inl h0
  · refine Or.inr ⟨b, off, cap, hv, fun j hj => ?_⟩
    have h2 := hc j hj
    rw [← h2]
    have hj' : j < xs.length := by rw [h.1]; exact hj
    rw [List.getElem?_eq_getElem hj'] at h2
    rw [hm.cellSome h2 (hd b off cap hv), h2]

/-- append of a slice that is read, run. -/
theorem run_append_rdl {P : Program} {w : World} (t ty E : TypeId) {z : Value} {sz bytes : Nat} (ht : P.underlying t = some (.slice E)) (he : (P.info? E).map (fun i => (i.zero, i.size, i.bytes)) = some (some z, sz, bytes)) (hzs : z.cells.size = sz) (hsz : 0 < sz)
    {v : Value} {n : Nat} {xs : List Value} {L : List Nat} (hown : Own w E sz v n xs L) {x : Value} {m : Nat} {ys : List Value} (hx : Rdl w sz x m ys) (h1 : ∀ u ∈ ys, u.oneCell' = true)
    (h63 : n + m ≤ 9223372036854775807) (hbytes : (n + m) * bytes ≤ 140737488355328) :
    ∃ v' w' L', (Builtin.append_ #[t, t] ty #[v, x]).run P w = .ok v' w' ∧ Own w' E sz v' (n + m) (xs ++ ys) L' ∧ Mod L w w' ∧ (∀ k ∈ L', k ∈ L ∨ w.heap.size ≤ k) := by
  obtain ⟨i, hi, hz, hsize, hby⟩ := info_parts he
  subst hsize
  subst hby
  have h63' : n + m ≤ maxLen := by simpa [maxLen] using h63
  have hlen : (xs ++ ys).length = (n + m) * i.size := by rw [List.length_append, hown.1, hx.1, Nat.add_mul]
  rcases hx.2 with ⟨rfl, rfl⟩ | ⟨b, off, cp, rfl, hc⟩
  · have hys : ys = [] := List.eq_nil_of_length_eq_zero (by simpa using hx.1)
    subst hys
    refine ⟨v, w, L, ?_, by simpa using hown, Mod.refl _ _, fun k hk => Or.inl hk⟩
    rcases hown.2 with ⟨rfl, rfl, _⟩ | ⟨g, cap, cur, rfl, _, _, hnc, _⟩
    · simp [Builtin.append_, run_underlying ht, sizeOf, typeInfo, hi, Builtin.lenOf, Builtin.firstCells]
    · simp [Builtin.append_, run_underlying ht, sizeOf, typeInfo, hi, Builtin.lenOf, Builtin.firstCells, hnc, storeCells]
  · have hnews : ∀ j u, ys[j]? = some u → w.cell? ((⟨b, off, none⟩ : Addr).add j) = some u := by
      intro j u hj
      have hjl : j < ys.length := by
        rcases Nat.lt_or_ge j ys.length with h | h
        · exact h
        · rw [List.getElem?_eq_none h] at hj; cases hj
      have hadd : (⟨b, off, none⟩ : Addr).add j = ⟨b, off + j, none⟩ := by unfold Addr.add; split <;> simp_all
      rw [hadd, hc j (by rw [← hx.1]; exact hjl)]; exact hj
    have grown : ∀ (old : Nat), old < n + m →
        Own (w.drew.alloc (.cells (xs.toArray ++ ys.toArray ++ Builtin.zeroCells z.cells (grownCap w (n + m) old E - (n + m))) E)) E i.size (.slice (some ⟨w.heap.size, 0, none⟩) (n + m) (grownCap w (n + m) old E)) (n + m) (xs ++ ys) [w.heap.size] := by
      intro old ho
      refine ⟨hlen, Or.inr ⟨w.heap.size, _, _, rfl, rfl, Blk.new w.drew _ _, grownCap_ge w (n + m) old E, grownCap_le_maxLen w (n + m) old E h63', ?_, ?_⟩⟩
      · have hge := grownCap_ge w (n + m) old E
        simp only [Array.size_append, List.size_toArray, size_zeroCells, hzs, hown.1, hx.1, ← Nat.add_mul]
        exact Nat.mul_le_mul_right _ (by omega)
      · simp only [Array.toList_append, List.append_assoc]
        rw [← List.append_assoc, ← hlen]
        exact List.take_left
    rcases hown.2 with ⟨rfl, rfl, rfl⟩ | ⟨g, cap, cur, rfl, rfl, hb, hnc, hcm, hcs, htake⟩
    · have hxs : xs = [] := List.eq_nil_of_length_eq_zero (by simpa using hown.1)
      subst hxs
      by_cases hm : m = 0
      · subst hm
        have hys : ys = [] := List.eq_nil_of_length_eq_zero (by simpa using hx.1)
        subst hys
        refine ⟨.slice none 0 0, w, [], ?_, Own.nil _ _ _, Mod.refl _ _, fun k hk => Or.inl hk⟩
        simp [Builtin.append_, run_underlying ht, sizeOf, typeInfo, hi, Builtin.lenOf, Builtin.firstCells, loadCells, loadCellsFrom]
      · have hr := run_append_nil (P := P) w t ty E i z ht hi hz ⟨b, off, none⟩ m cp ys hx.1 hnews (by omega) (by omega) (by have hb := hbytes; simp only [Nat.zero_add] at hb; omega)
        have hgr := grown 0 (by omega)
        simp only [Nat.zero_add, List.nil_append, Array.empty_append] at hgr ⊢
        exact ⟨_, _, _, hr, hgr, ((Mod.refl _ _).drew.alloc _), fun k hk => Or.inr (by simp at hk; omega)⟩
    · by_cases hroom : n + m ≤ cap
      · have hfit : n * i.size + ys.length ≤ cur.size := by rw [hx.1, ← Nat.add_mul]; exact Nat.le_trans (Nat.mul_le_mul_right _ hroom) hcs
        have hr := run_append_room (P := P) w t ty E i ht hi g n cap cur hb ⟨b, off, none⟩ m cp ys hx.1 hnews h1 hroom hfit
        refine ⟨_, _, [g], hr, ⟨hlen, Or.inr ⟨g, cap, _, rfl, rfl, setRow_heap w g cur _ E _ hb, hroom, hcm, ?_, ?_⟩⟩, ⟨rfl, rfl, rfl, by simp, fun k _ hk => setRow_other w g k _ (by simpa using hk)⟩, fun k hk => Or.inl hk⟩
        · simp only [List.size_toArray, List.length_append, List.length_take, List.length_drop, Array.length_toList]
          omega
        · rw [htake, ← hlen]
          exact List.take_left
      · have holds : ∀ j u, xs[j]? = some u → w.cell? ((⟨g, 0, none⟩ : Addr).add j) = some u := by
          intro j u hj
          have hadd : (⟨g, 0, none⟩ : Addr).add j = ⟨g, j, none⟩ := by unfold Addr.add; split <;> simp_all
          rw [hadd, hb.cell, ← Array.getElem?_toList]
          rw [← htake, List.getElem?_take] at hj
          split at hj
          · exact hj
          · cases hj
        have hr := run_append_grow (P := P) w t ty E i z ht hi hz ⟨g, 0, none⟩ n cap xs hown.1 holds ⟨b, off, none⟩ m cp ys hx.1 hnews (by omega) (by omega) (growslice_fits (by omega) hbytes)
        exact ⟨_, _, _, hr, grown cap (by omega), ((Mod.refl _ _).drew.alloc _), fun k hk => Or.inr (by simp at hk; omega)⟩

section
variable {P : Program} {w : World}
/-- append in a list of operations. -/
theorem wpList_append_rdl {ops : Array Oper} {rest : List Oper} {o : Oper} {a : Act} {Q : Exit → Act → World → Prop} (hgd : o.guard = none) (s x : Operand) (t E : TypeId)
    (ho : o.op = .call { callee := .builtin .append, args := #[s, x], argTypes := #[t, t] })
    {z : Value} {sz bytes : Nat} (ht : P.underlying t = some (.slice E)) (he : (P.info? E).map (fun i => (i.zero, i.size, i.bytes)) = some (some z, sz, bytes)) (hzs : z.cells.size = sz) (hsz : 0 < sz)
    {v : Value} (hs : a.eval s = v) {n : Nat} {xs : List Value} {L : List Nat} (hown : Own w E sz v n xs L) {y : Value} (hy : a.eval x = y) {m : Nat} {ys : List Value} (hx : Rdl w sz y m ys) (h1 : ∀ u ∈ ys, u.oneCell' = true)
    (h63 : n + m ≤ 9223372036854775807) (hbytes : (n + m) * bytes ≤ 140737488355328)
    (h : ∀ v' w' L', Hid (Own w' E sz v' (n + m) (xs ++ ys) L') → Hid (Mod L w w') → Hid (∀ k ∈ L', k ∈ L ∨ w.heap.size ≤ k) → wpList P ops Q rest (a.put o.dst v') w') :
    wpList P ops Q (o :: rest) a w := by
  obtain ⟨v', w', L', hrun, h2, h3, h4⟩ := run_append_rdl (P := P) t o.type E ht he hzs hsz hown hx h1 h63 hbytes
  refine wpList_plain hgd fun K hK => ?_
  unfold Oper.wp
  simp [execOp, ho, resolve, invoke, builtin, hs, hy, hrun, Result.andThen]
  exact hK _ _ (h v' w' L' h2 h3 h4)

/-- append as a step of a region that draws its order. -/
theorem step_append_rdl {ops : Array Oper} {o : Oper} {a : Act} {K : Act → World → Prop} {Q : Exit → Act → World → Prop} {F : Prop} (hgd : o.guard = none) (s x : Operand) (t E : TypeId)
    (ho : o.op = .call { callee := .builtin .append, args := #[s, x], argTypes := #[t, t] })
    {z : Value} {sz bytes : Nat} (ht : P.underlying t = some (.slice E)) (he : (P.info? E).map (fun i => (i.zero, i.size, i.bytes)) = some (some z, sz, bytes)) (hzs : z.cells.size = sz) (hsz : 0 < sz)
    {v : Value} (hs : a.eval s = v) {n : Nat} {xs : List Value} {L : List Nat} (hown : Own w E sz v n xs L) {y : Value} (hy : a.eval x = y) {m : Nat} {ys : List Value} (hx : Rdl w sz y m ys) (h1 : ∀ u ∈ ys, u.oneCell' = true)
    (h63 : n + m ≤ 9223372036854775807) (hbytes : (n + m) * bytes ≤ 140737488355328)
    (h : ∀ v' w' L', Hid (Own w' E sz v' (n + m) (xs ++ ys) L') → Hid (Mod L w w') → Hid (∀ k ∈ L', k ∈ L ∨ w.heap.size ≤ k) → K (a.put o.dst v') w') :
    if Region.wanted o (yielded ops a.tmps) = true then Oper.wp P o a w K Q else F := by
  have hw : Region.wanted o (yielded ops a.tmps) = true := by simp [Region.wanted, hgd]
  rw [if_pos hw]
  obtain ⟨v', w', L', hrun, h2, h3, h4⟩ := run_append_rdl (P := P) t o.type E ht he hzs hsz hown hx h1 h63 hbytes
  unfold Oper.wp
  simp [execOp, ho, resolve, invoke, builtin, hs, hy, hrun, Result.andThen]
  exact h v' w' L' h2 h3 h4
end
end
end Go.Proofs.YtibhkldnimfnkaaGreatDoor

/- Things in memory that share no block: what a call does to one leaves the others. -/
namespace Go.Proofs.YtibhkldnimfnkaaGreatDoor
section
set_option linter.unusedVariables false
set_option linter.unusedSimpArgs false
set_option linter.unusedSectionVars false
open Go.RowKit

/-- A thing in memory, and the blocks that it has. -/
abbrev Res := World → List Nat → Prop
class Keep (R : Res) : Prop where
  lt : ∀ {w : World} {L : List Nat}, R w L → ∀ k ∈ L, k < w.heap.size
  mod : ∀ {w w' : World} {L M : List Nat}, R w L → Mod M w w' → (∀ k ∈ L, k ∉ M) → R w' L

def emp : Res := fun _ L => L = []
def boxR (b : Nat) (cs : Array Value) (T : TypeId) : Res := fun w L => Blk w b cs T ∧ L = [b]
def rowR (E : TypeId) (sz : Nat) (v : Value) (n : Nat) (xs : List Value) : Res := fun w L => Own w E sz v n xs L
def star (R S : Res) : Res := fun w L => ∃ L1 L2, R w L1 ∧ S w L2 ∧ L = L1 ++ L2 ∧ ∀ k ∈ L1, k ∉ L2

instance : Keep emp where
  lt := by rintro w L rfl k hk; cases hk
  mod := by rintro w w' L M h _ _; exact h
instance (b : Nat) (cs : Array Value) (T : TypeId) : Keep (boxR b cs T) where
  lt := by rintro w L ⟨h, rfl⟩ k hk; simp at hk; subst hk; exact h.lt
  mod := by rintro w w' L M ⟨h, rfl⟩ hm hd; exact ⟨hm.blk h (hd _ (by simp)), rfl⟩
instance (E : TypeId) (sz : Nat) (v : Value) (n : Nat) (xs : List Value) : Keep (rowR E sz v n xs) where
  lt := fun h k hk => Own.lt h k hk
  mod := fun h hm hd => Own.mod h hm hd
instance (R S : Res) [Keep R] [Keep S] : Keep (star R S) where
  lt := by
    rintro w L ⟨L1, L2, h1, h2, rfl, _⟩ k hk
    rcases List.mem_append.1 hk with h | h
    · exact Keep.lt h1 k h
    · exact Keep.lt h2 k h
  mod := by
    rintro w w' L M ⟨L1, L2, h1, h2, rfl, hd⟩ hm hn
    exact ⟨L1, L2, Keep.mod h1 hm (fun k hk => hn k (by simp [hk])), Keep.mod h2 hm (fun k hk => hn k (by simp [hk])), rfl, hd⟩

/-- What a call leaves of the thing with the blocks L. -/
def Says (w : World) (L : List Nat) (r : Value) (R' : Res) (e : Ending) (w' : World) : Prop :=
  e = .returned r ∧ ∃ L', R' w' L' ∧ Mod L w w' ∧ ∀ k ∈ L', k ∈ L ∨ w.heap.size ≤ k

/-- All that the walk has made since w0. -/
def Top (w0 : World) (R : Res) (w : World) : Prop := ∃ L, R w L ∧ Mod [] w0 w ∧ ∀ k ∈ L, w0.heap.size ≤ k

theorem Top.start (w : World) : Top w emp w := ⟨[], rfl, Mod.refl _ _, by simp⟩
theorem Top.m {w0 w : World} {R : Res} (h : Top w0 R w) : Mod [] w0 w := h.choose_spec.2.1
theorem Top.mod {w0 w w' : World} {R : Res} [Keep R] (h : Top w0 R w) (hm : Mod [] w w') : Top w0 R w' := by
  obtain ⟨L, h1, h2, h3⟩ := h
  exact ⟨L, Keep.mod h1 hm (by simp), h2.tr hm, h3⟩
theorem Top.drew {w0 w : World} {R : Res} [Keep R] (h : Top w0 R w) : Top w0 R w.drew := h.mod (Mod.refl [] w).drew
theorem Top.alloc {w0 w : World} {R : Res} [Keep R] (h : Top w0 R w) (o : Obj) : Top w0 R (w.alloc o) := h.mod ((Mod.refl [] w).alloc o)
theorem Top.box {w0 w : World} {R : Res} [Keep R] (h : Top w0 R w) (cs : Array Value) (T : TypeId) : Top w0 (star (boxR w.heap.size cs T) R) (w.alloc (.cells cs T)) := by
  obtain ⟨L, h1, h2, h3⟩ := h
  refine ⟨[w.heap.size] ++ L, ⟨[w.heap.size], L, ⟨Blk.new w cs T, rfl⟩, Keep.mod h1 ((Mod.refl [] w).alloc _) (by simp), rfl, ?_⟩, h2.alloc _, ?_⟩
  · intro k hk hL
    simp at hk
    subst hk
    exact absurd (Keep.lt h1 _ hL) (by omega)
  · intro k hk
    rcases List.mem_append.1 hk with h | h
    · simp at h; subst h; exact h2.size
    · exact h3 k h
theorem Top.drop {w0 w : World} {R S : Res} (h : Top w0 (star R S) w) : Top w0 S w := by
  obtain ⟨L, ⟨L1, L2, h1, h2, rfl, _⟩, hm, hf⟩ := h
  exact ⟨L2, h2, hm, fun k hk => hf k (by simp [hk])⟩
theorem Top.drop2 {w0 w : World} {R S U : Res} (h : Top w0 (star R (star S U)) w) : Top w0 (star R U) w := by
  obtain ⟨L, ⟨L1, L2, h1, ⟨L3, L4, h3, h4, rfl, _⟩, rfl, hd⟩, hm, hf⟩ := h
  exact ⟨L1 ++ L4, ⟨L1, L4, h1, h4, rfl, fun k hk h => hd k hk (by simp [h])⟩, hm, fun k hk => hf k (by simp at hk ⊢; rcases hk with h | h <;> simp [h])⟩
theorem Top.swap {w0 w : World} {R S U : Res} (h : Top w0 (star R (star S U)) w) : Top w0 (star S (star R U)) w := by
  obtain ⟨L, ⟨L1, L2, h1, ⟨L3, L4, h3, h4, rfl, hd'⟩, rfl, hd⟩, hm, hf⟩ := h
  refine ⟨L3 ++ (L1 ++ L4), ⟨L3, L1 ++ L4, h3, ⟨L1, L4, h1, h4, rfl, fun k hk h => hd k hk (by simp [h])⟩, rfl, ?_⟩, hm, fun k hk => hf k (by simp at hk ⊢; rcases hk with h | h | h <;> simp [h])⟩
  intro k hk h
  rcases List.mem_append.1 h with h | h
  · exact hd k h (by simp [hk])
  · exact hd' k hk h
theorem Top.get {w0 w : World} {U : Res} {b : Nat} {cs : Array Value} {T : TypeId} (h : Top w0 (star (boxR b cs T) U) w) : Blk w b cs T := by
  obtain ⟨L, ⟨L1, L2, ⟨h1, _⟩, _⟩, _⟩ := h
  exact h1
theorem Top.res {w0 w : World} {R U : Res} (h : Top w0 (star R U) w) : ∃ L, R w L := by
  obtain ⟨L, ⟨L1, L2, h1, _⟩, _⟩ := h
  exact ⟨L1, h1⟩
theorem Top.says {w0 w w' : World} {R R' U : Res} [Keep U] {L1 L2 : List Nat} {r : Value} {e : Ending} (_h1 : R w L1) (h2 : U w L2) (hd : ∀ k ∈ L1, k ∉ L2) (hm : Mod [] w0 w) (hf : ∀ k ∈ L1 ++ L2, w0.heap.size ≤ k) (hs : Says w L1 r R' e w') : e = .returned r ∧ Top w0 (star R' U) w' := by
  obtain ⟨rfl, L', k1, k2, k3⟩ := hs
  refine ⟨rfl, L' ++ L2, ⟨L', L2, k1, Keep.mod h2 k2 (fun k hk h => hd k h hk), rfl, ?_⟩, hm.trans k2 (by simp) (by intro x hx hlt; exact absurd (hf x (by simp [hx])) (by omega)), ?_⟩
  · intro k hk h
    rcases k3 k hk with h' | h'
    · exact hd k h' h
    · exact absurd (Keep.lt h2 k h) (by omega)
  · intro k hk
    rcases List.mem_append.1 hk with h | h
    · rcases k3 k h with h' | h'
      · exact hf k (by simp [h'])
      · have := hm.size; omega
    · exact hf k (by simp [h])
/-- A call that does something to the first thing. -/
theorem Top.call {w0 w : World} {R R' U : Res} [Keep U] {P : Program} {f : FuncId} {args : Array Value} {r : Value} (h : Top w0 (star R U) w) (hc : ∀ L, R w L → Calls P f args w (Says w L r R')) :
    Calls P f args w fun e w' => e = .returned r ∧ Top w0 (star R' U) w' := by
  obtain ⟨L, ⟨L1, L2, h1, h2, rfl, hd⟩, hm, hf⟩ := h
  exact (hc L1 h1).mono fun e w' hs => Top.says h1 h2 hd hm hf hs
/-- A call that leaves all as it was. -/
theorem Top.read {w0 w : World} {R : Res} [Keep R] {P : Program} {f : FuncId} {args : Array Value} {r : Value} (h : Top w0 R w) (hc : Calls P f args w fun e w' => e = .returned r ∧ Mod [] w w') :
    Calls P f args w fun e w' => e = .returned r ∧ Top w0 R w' :=
  hc.mono fun _ _ hs => ⟨hs.1, h.mod hs.2⟩
/-- A call that makes a thing. -/
theorem Top.made {w0 w w' : World} {R R' : Res} [Keep R] (h : Top w0 R w) {L : List Nat} (h1 : R' w' L) (hm : Mod [] w w') (hf : ∀ k ∈ L, w.heap.size ≤ k) : Top w0 (star R' R) w' := by
  obtain ⟨M, k1, k2, k3⟩ := h
  refine ⟨L ++ M, ⟨L, M, h1, Keep.mod k1 hm (by simp), rfl, fun k hk h => absurd (Keep.lt k1 k h) (by have := hf k hk; omega)⟩, k2.tr hm, fun k hk => ?_⟩
  rcases List.mem_append.1 hk with h | h
  · have := hf k h; have := k2.size; omega
  · exact k3 k h
theorem Top.set {w0 w : World} {U : Res} [Keep U] {b : Nat} {cs : Array Value} {T : TypeId} (h : Top w0 (star (boxR b cs T) U) w) (i : Nat) (v : Value) : Top w0 (star (boxR b (cs.setIfInBounds i v) T) U) (w.setCell ⟨b, i, none⟩ v) := by
  obtain ⟨L, ⟨L1, L2, ⟨h1, rfl⟩, h2, rfl, hd⟩, hm, hf⟩ := h
  refine ⟨[b] ++ L2, ⟨[b], L2, ⟨h1.set i v, rfl⟩, Keep.mod h2 (M := [b]) ((Mod.refl _ _).setCell (by simp) _) (by intro k hk; simp; intro hb; exact hd b (by simp) (hb ▸ hk)), rfl, hd⟩, hm.setCell (Or.inr (hf b (by simp))) _, hf⟩

/-- The one says what the other says, of no other blocks. -/
def Ent (R S : Res) : Prop := ∀ (w : World) (L : List Nat), R w L → ∃ L', S w L' ∧ ∀ k ∈ L', k ∈ L
theorem Ent.under {S S' : Res} (A : Res) (h : Ent S S') : Ent (star A S) (star A S') := by
  rintro w L ⟨L1, L2, h1, h2, rfl, hd⟩
  obtain ⟨L', g1, g2⟩ := h w L2 h2
  exact ⟨L1 ++ L', ⟨L1, L', h1, g1, rfl, fun k hk h => hd k hk (g2 k h)⟩, fun k hk => by
    rcases List.mem_append.1 hk with h | h
    · simp [h]
    · simp [g2 k h]⟩
theorem ent_swap (R S U : Res) : Ent (star R (star S U)) (star S (star R U)) := by
  rintro w L ⟨L1, L2, h1, ⟨L3, L4, h3, h4, rfl, hd'⟩, rfl, hd⟩
  refine ⟨L3 ++ (L1 ++ L4), ⟨L3, L1 ++ L4, h3, ⟨L1, L4, h1, h4, rfl, fun k hk h => hd k hk (by simp [h])⟩, rfl, ?_⟩, fun k hk => by simp at hk ⊢; rcases hk with h | h | h <;> simp [h]⟩
  intro k hk h
  rcases List.mem_append.1 h with h | h
  · exact hd k h (by simp [hk])
  · exact hd' k hk h
theorem ent_drop (R S : Res) : Ent (star R S) S := by
  rintro w L ⟨L1, L2, h1, h2, rfl, hd⟩
  exact ⟨L2, h2, fun k hk => by simp [hk]⟩
theorem Top.ent {w0 w : World} {R S : Res} (h : Top w0 R w) (he : Ent R S) : Top w0 S w := by
  obtain ⟨L, h1, h2, h3⟩ := h
  obtain ⟨L', g1, g2⟩ := he w L h1
  exact ⟨L', g1, h2, fun k hk => h3 k (g2 k hk)⟩
theorem Top.swap2 {w0 w : World} {A R S U : Res} (h : Top w0 (star A (star R (star S U))) w) : Top w0 (star A (star S (star R U))) w := h.ent ((ent_swap R S U).under A)
theorem Top.drop3 {w0 w : World} {A R S U : Res} (h : Top w0 (star A (star R (star S U))) w) : Top w0 (star A (star R U)) w := h.ent (((ent_drop S U).under R).under A)
end
end Go.Proofs.YtibhkldnimfnkaaGreatDoor

/- copy into a new row, clear, append of nothing: elements of some cells. No program in sight. -/
namespace Go.Proofs.YtibhkldnimfnkaaGreatDoor
section
set_option linter.unusedVariables false
set_option linter.unusedSimpArgs false
set_option linter.unusedSectionVars false
open Go.RowKit

section
variable {P : Program} {w : World}

theorem Src.rdl {x : Value} {sz m : Nat} {cs : List Value} (h : Rdl w sz x m cs) : Src P w x sz m cs := by
  obtain ⟨hl, ⟨rfl, rfl⟩ | ⟨b, off, cap, rfl, hc⟩⟩ := h
  · have : cs = [] := List.eq_nil_of_length_eq_zero (by simpa using hl)
    subst this
    exact Src.nil P w sz 0
  · exact Src.slice (fun i hi => hc i (by omega)) hl

/-- A slice without elements. -/
theorem Src.none (a : Option Addr) (sz cap : Nat) : Src P w (.slice a 0 cap) sz 0 [] := ⟨rfl, fun n hn => by
  obtain rfl : n = 0 := by omega
  cases a <;> simp [Builtin.firstCells, loadCells, loadCellsFrom], by simp⟩

/-- copy of n elements into a block that holds just n. -/
theorem run_copy_full (dT sT ty elem : TypeId) (n cp : Nat) (x : Value) (sz : Nat) (xs : List Value) (hu : P.underlying dT = some (.slice elem)) (hsz : (P.info? elem).map (·.size) = some sz)
    (hx : Src P w x sz n xs) (g : Nat) (cur : Array Value) (t : TypeId) (hg : Blk w g cur t) (hfit : cur.size = n * sz) (h1 : ∀ v ∈ xs, v.oneCell' = true) :
    ∃ w', (Builtin.copy_ #[dT, sT] ty #[.slice (some ⟨g, 0, none⟩) n cp, x]).run P w = .ok (goInt n) w' ∧ Blk w' g xs.toArray t ∧ Mod [g] w w' := by
  cases hq : P.info? elem with
  | none => simp [hq] at hsz
  | some i =>
    have hi : i.size = sz := by simpa [hq] using hsz
    have hl := hx.all
    have hc := hx.cells n (Nat.le_refl _)
    rw [List.take_of_length_le (by omega)] at hc
    have hst := run_storeCells_at P g 0 t xs 0 cur w hg (by omega) h1
    have e : (cur.toList.take (0 + 0) ++ xs ++ cur.toList.drop (0 + 0 + xs.length)).toArray = xs.toArray := by
      have : cur.toList.drop (0 + 0 + xs.length) = [] := List.drop_eq_nil_of_le (by simp; omega)
      rw [this]; simp
    rw [e] at hst
    have hmn : Nat.min n n = n := Nat.min_self n
    refine ⟨w.setRow g xs.toArray, ?_, setRow_heap w g _ _ t _ hg, ⟨rfl, rfl, rfl, by simp, fun k _ hk => setRow_other w g k _ (by simpa using hk)⟩⟩
    simp [Builtin.copy_, run_underlying hu, sizeOf, typeInfo, hq, hi, hx.len, hmn, hc, hst]

theorem wpList_copy_full {ops : Array Oper} {rest : List Oper} {o : Oper} {a : Act} {Q : Exit → Act → World → Prop} (hgd : o.guard = none) (d s : Operand) (dT sT : TypeId)
    (ho : o.op = .call { callee := .builtin .copy, args := #[d, s], argTypes := #[dT, sT] }) (elem : TypeId) (sz : Nat) (hu : P.underlying dT = some (.slice elem)) (hsz : (P.info? elem).map (·.size) = some sz)
    (n cp : Nat) (x : Value) (hs : a.eval s = x) (xs : List Value) (hx : Src P w x sz n xs)
    (g : Nat) (cur : Array Value) (t : TypeId) (hd : a.eval d = .slice (some ⟨g, 0, none⟩) n cp) (hg : Blk w g cur t) (hfit : cur.size = n * sz) (h1 : ∀ v ∈ xs, v.oneCell' = true)
    (h : ∀ w', Hid (Blk w' g xs.toArray t) → Hid (Mod [g] w w') → wpList P ops Q rest (a.put o.dst (goInt n)) w') :
    wpList P ops Q (o :: rest) a w := by
  obtain ⟨w', hrun, hb, hm⟩ := run_copy_full dT sT o.type elem n cp x sz xs hu hsz hx g cur t hg hfit h1
  refine wpList_plain hgd fun K hK => ?_
  unfold Oper.wp
  simp [execOp, ho, resolve, invoke, builtin, hd, hs, hrun, Result.andThen]
  exact hK _ _ (h w' hb hm)

/-- clear of the last elements of a block. -/
theorem run_clear_blk (t e ty : TypeId) (z : Value) (ht : P.underlying t = some (.slice e)) (hv : ∀ w, (zeroValue e).run P w = .ok z w) (h1 : ∀ v ∈ z.cells.toList, v.oneCell' = true) (a : Option Addr) (n c : Nat)
    (g o : Nat) (cur : Array Value) (T : TypeId) (hg : Blk w g cur T) (ha : 0 < n → a = some ⟨g, o, none⟩ ∧ o + n * z.cells.size ≤ cur.size) :
    ∃ w' cur', (Builtin.clear_ #[t] ty #[.slice a n c]).run P w = .ok (.tuple #[]) w' ∧ Blk w' g cur' T ∧ cur'.size = cur.size ∧ (∀ j, j < o → cur'[j]? = cur[j]?) ∧ Mod [g] w w' := by
  rcases Nat.eq_zero_or_pos n with rfl | hn
  · refine ⟨w, cur, ?_, hg, rfl, fun _ _ => rfl, Mod.refl _ _⟩
    cases a <;> simp [Builtin.clear_, run_underlying ht]
  · obtain ⟨rfl, hfit⟩ := ha hn
    have hzs : (Builtin.zeroCells z.cells n).toList.length = n * z.cells.size := by simp [size_zeroCells]
    have hz1 : ∀ v ∈ (Builtin.zeroCells z.cells n).toList, v.oneCell' = true := by
      intro v hv'
      simp [Builtin.zeroCells] at hv'
      obtain ⟨k, hk, rfl⟩ := hv'
      have hpos : 0 < z.cells.size := by
        rcases Nat.eq_zero_or_pos z.cells.size with h0 | h0
        · simp [h0] at hk
        · exact h0
      have hlt : k % z.cells.size < z.cells.size := Nat.mod_lt _ hpos
      rw [getElem!_pos z.cells (k % z.cells.size) hlt]
      exact h1 _ (Array.getElem_mem_toList _)
    have hst := run_storeCells_at P g o T _ 0 cur w hg (by rw [hzs]; omega) hz1
    refine ⟨w.setRow g (cur.toList.take (o + 0) ++ (Builtin.zeroCells z.cells n).toList ++ cur.toList.drop (o + 0 + (Builtin.zeroCells z.cells n).toList.length)).toArray, (cur.toList.take (o + 0) ++ (Builtin.zeroCells z.cells n).toList ++ cur.toList.drop (o + 0 + (Builtin.zeroCells z.cells n).toList.length)).toArray, ?_, setRow_heap w g cur _ T _ hg, ?_, ?_, ⟨rfl, rfl, rfl, by simp, fun k _ hk => setRow_other w g k _ (by simpa using hk)⟩⟩
    · obtain ⟨m, rfl⟩ : ∃ m, n = m + 1 := ⟨n - 1, by omega⟩
      simp [Builtin.clear_, run_underlying ht, hv, hst]
    · simp only [List.size_toArray, List.length_append, List.length_take, List.length_drop, Array.length_toList, hzs]
      omega
    · intro j hj
      rw [List.getElem?_toArray, List.append_assoc, List.getElem?_append_left (by simp; omega), List.getElem?_take, if_pos (by omega)]
      simp

theorem wpList_clear_blk {ops : Array Oper} {rest : List Oper} {o : Oper} {act : Act} {Q : Exit → Act → World → Prop} (hgd : o.guard = none) (s : Operand) (t : TypeId)
    (ho : o.op = .call { callee := .builtin .clear, args := #[s], argTypes := #[t] }) (e : TypeId) (z : Value) (ht : P.underlying t = some (.slice e)) (hv : ∀ w, (zeroValue e).run P w = .ok z w) (h1 : ∀ v ∈ z.cells.toList, v.oneCell' = true) (a : Option Addr) (n c : Nat)
    (hs : act.eval s = .slice a n c)
    (g off : Nat) (cur : Array Value) (T : TypeId) (hg : Blk w g cur T) (ha : 0 < n → a = some ⟨g, off, none⟩ ∧ off + n * z.cells.size ≤ cur.size)
    (h : ∀ w' cur', Hid (Blk w' g cur' T) → Hid (cur'.size = cur.size) → Hid (∀ j, j < off → cur'[j]? = cur[j]?) → Hid (Mod [g] w w') → wpList P ops Q rest (act.put o.dst (.tuple #[])) w') :
    wpList P ops Q (o :: rest) act w := by
  obtain ⟨w', cur', hrun, hb, h2, h3, hm⟩ := run_clear_blk t e o.type z ht hv h1 a n c g off cur T hg ha
  refine wpList_plain hgd fun K hK => ?_
  unfold Oper.wp
  simp [execOp, ho, resolve, invoke, builtin, hs, hrun, Result.andThen]
  exact hK _ _ (h w' cur' hb h2 h3 hm)

/-- make of n elements of some cells: a new block of just so many. -/
theorem run_make_row (t e : TypeId) (i : TypeInfo) (z : Value) (ht : P.underlying t = some (.slice e)) (hi : P.info? e = some i) (hz : i.zero = some z)
    (n : Nat) (hbytes : i.bytes * n ≤ 281474976710656) (h63 : n ≤ 9223372036854775807) :
    (Instr.makeSlice t (.int .i64 n) (.int .i64 n)).run P w = .ok (.slice (some ⟨w.heap.size, 0, none⟩) n n) (w.alloc (.cells (madeCells z.cells (n * i.size)) e)) := by
  have hb' : (i.bytes : Int) * (n : Int) ≤ 281474976710656 := by
    have h : ((i.bytes * n : Nat) : Int) ≤ 281474976710656 := by omega
    rwa [Int.natCast_mul] at h
  have hr := run_make (P := P) w t e i z ht hi hz .i64 .i64 n n (by omega) (by omega) hb' (by omega)
  simpa using hr
end

/-- append of no elements at all. -/
theorem run_append_none {P : Program} {w : World} (t ty E : TypeId) (ht : P.underlying t = some (.slice E)) {sz : Nat} (he : (P.info? E).map (·.size) = some sz) (ad : Option Addr) (n cap : Nat) (hnc : n ≤ cap) (a : Option Addr) (c : Nat) :
    (Builtin.append_ #[t, t] ty #[.slice ad n cap, .slice a 0 c]).run P w = .ok (.slice ad n cap) w := by
  cases hq : P.info? E with
  | none => simp [hq] at he
  | some i =>
    cases a <;> cases ad <;> simp [Builtin.append_, run_underlying ht, sizeOf, typeInfo, hq, Builtin.lenOf, Builtin.firstCells, loadCells, loadCellsFrom, hnc, storeCells]
end
end Go.Proofs.YtibhkldnimfnkaaGreatDoor

/- A slice that comes in: its elements, and what their cells hold. -/
namespace Go.Proofs.YtibhkldnimfnkaaGreatDoor
section
set_option linter.unusedVariables false
set_option linter.unusedSimpArgs false
set_option linter.unusedSectionVars false
open Go.RowKit Go.ChangeShapes Go.WideShapes Go.Deep

theorem choose_list {α : Type} {p : Nat → α → Prop} : ∀ (n : Nat), (∀ i, i < n → ∃ x, p i x) → ∃ xs : List α, xs.length = n ∧ ∀ i x, xs[i]? = some x → p i x
  | 0, _ => ⟨[], rfl, fun i x h => by simp at h⟩
  | n + 1, h => by
    obtain ⟨xs, hl, hx⟩ := choose_list n (fun i hi => h i (by omega))
    obtain ⟨x, hp⟩ := h n (by omega)
    refine ⟨xs ++ [x], by simp [hl], fun i y hy => ?_⟩
    rcases Nat.lt_or_ge i n with hi | hi
    · rw [List.getElem?_append_left (by omega)] at hy; exact hx i y hy
    · rw [List.getElem?_append_right (by omega)] at hy
      have : i - xs.length = 0 := by
        rcases Nat.eq_zero_or_pos (i - xs.length) with h0 | h0
        · exact h0
        · rw [List.getElem?_eq_none (by simp; omega)] at hy; cases hy
      rw [this] at hy
      simp at hy
      have hin : i = n := by omega
      subst hin; subst hy; exact hp

/-- The elements lie at the slice's address, C cells each. -/
def IsSeq {X : Type} (C : Nat) (cellsX : X → List Value) (w : World) (a : Option Addr) (xs : List X) : Prop :=
  xs = [] ∨ ∃ b off : Nat, a = some ⟨b, off, none⟩ ∧ ∀ (i : Nat) (x : X), xs[i]? = some x → ∀ (j : Nat) (v : Value), (cellsX x)[j]? = some v → w.cell? ⟨b, off + i * C + j, none⟩ = some v

theorem IsSeq.at {X : Type} {C : Nat} {cellsX : X → List Value} {w w' : World} {a : Option Addr} {xs : List X} (h : IsSeq C cellsX w a xs) (hm : Mod [] w w') {i : Nat} {x : X} (hx : xs[i]? = some x) :
    ∃ b off : Nat, a = some ⟨b, off, none⟩ ∧ ∀ (j : Nat) (v : Value), (cellsX x)[j]? = some v → w'.cell? ⟨b, off + i * C + j, none⟩ = some v := by
  rcases h with rfl | ⟨b, off, rfl, h⟩
  · simp at hx
  · exact ⟨b, off, rfl, fun j v hj => hm.cellSome (h i x hx j v hj) (by simp)⟩

theorem open_seq {X : Type} {H : Type} {enc : TypeId × Value → H} {w : World} {base : Nat} {spare : Nat → Bool} {held : Bool} {ts te : TypeId} (hts : Tryz.prog.underlying ts = some (.slice te)) {C : Nat} (hC : Tryz.prog.cellsOf te = C) (h0 : 0 < C) (cellsX : X → List Value)
    (hopen : ∀ (fuel : Nat) (cs : List Value) (x : DataW H × List MemPlace), DataW.trod enc Tryz.prog w base spare held fuel te cs = some x → cs.length = C → ∃ x : X, cs = cellsX x)
    {a : Option Addr} {len cap : Nat} {d : DataW H} {p : List MemPlace}
    (h : DataW.Trod enc Tryz.prog w base spare held ts (.slice a len cap) d p) : ∃ xs : List X, xs.length = len ∧ IsSeq C cellsX w a xs ∧ len ≤ 9223372036854775807 := by
  obtain ⟨fuel, hf⟩ := h
  rcases open_slice hts hf with ⟨h0, _⟩ | ⟨ad, l, c, m, n, D, Pl, hcs, _, hl, hm, hmm, _, hx⟩
  · simp [Value.cells] at h0
    obtain ⟨rfl, rfl, rfl⟩ := h0
    exact ⟨[], rfl, Or.inl rfl, by omega⟩
  · simp [Value.cells] at hcs
    obtain ⟨rfl, rfl, rfl⟩ := hcs
    rw [hC] at hx
    have hlm : len ≤ m := by rw [hmm]; split <;> omega
    have key : ∀ i, i < len → ∃ x : X, (i = 0 → ad.spot = none) ∧ ∀ (j : Nat) (v : Value), (cellsX x)[j]? = some v → w.cell? (ad.add (i * C + j)) = some v := by
      intro i hi
      obtain ⟨cs', h1, h2⟩ := hx i (by omega)
      obtain ⟨_, hlen, hat⟩ := World.cells?_some h1
      obtain ⟨x, rfl⟩ := hopen _ _ _ h2 hlen
      refine ⟨x, ?_, ?_⟩
      · intro hi0
        subst hi0
        have hc0 : (cellsX x)[0]? = some (cellsX x)[0] := List.getElem?_eq_getElem (by omega)
        have := hat 0 (by omega)
        rw [hc0] at this
        simpa [Addr.add] using World.cell?_spot this
      · intro j v hj
        obtain ⟨hj', rfl⟩ := List.getElem?_eq_some_iff.1 hj
        rw [← Go.Deep.add_add, hat j (by omega)]
        exact List.getElem?_eq_getElem hj'
    obtain ⟨xs, hxl, hxs⟩ := choose_list len key
    refine ⟨xs, hxl, ?_, by simp [maxLen] at hm; omega⟩
    cases xs with
    | nil => exact Or.inl rfl
    | cons x0 xs =>
      have hsp := (hxs 0 x0 rfl).1 rfl
      obtain ⟨b, off, sp⟩ := ad
      simp at hsp
      subst hsp
      refine Or.inr ⟨b, off, rfl, fun i x hi j v hj => ?_⟩
      have h0 := (hxs i x hi).2 j v hj
      have hadd : ∀ k, (⟨b, off, none⟩ : Addr).add k = ⟨b, off + k, none⟩ := by intro k; unfold Addr.add; split <;> simp_all
      rw [hadd] at h0
      rw [Nat.add_assoc]; exact h0
end
end Go.Proofs.YtibhkldnimfnkaaGreatDoor

/- A slice whose elements lie in C cells each: to be read (Lx), owned (Own), owned from some place on (Seg). No program in sight. -/
namespace Go.Proofs.YtibhkldnimfnkaaGreatDoor
section
set_option linter.unusedVariables false
set_option linter.unusedSimpArgs false
set_option linter.unusedSectionVars false
open Go.RowKit

/-- How an element lies. -/
structure Lays {X : Type} (C : Nat) (f : X → List Value) : Prop where
  len : ∀ x, (f x).length = C
  one : ∀ x, ∀ u ∈ f x, u.oneCell' = true
  pos : 0 < C

abbrev flat {X : Type} (f : X → List Value) (l : List X) : List Value := l.flatMap f

section
variable {X : Type} {C : Nat} {f : X → List Value}
theorem flat_len (hf : Lays C f) (l : List X) : (flat f l).length = l.length * C := by
  induction l with
  | nil => simp [flat]
  | cons x l ih =>
    have := hf.len x
    simp only [flat, List.flatMap_cons, List.length_append] at ih ⊢
    rw [ih, this, List.length_cons, Nat.add_mul]; omega
theorem flat_one (hf : Lays C f) (l : List X) : ∀ u ∈ flat f l, u.oneCell' = true := by
  intro u hu
  obtain ⟨x, _, h⟩ := List.mem_flatMap.1 hu
  exact hf.one x u h
theorem flat_at (hf : Lays C f) : ∀ (l : List X) (k : Nat) (x : X), l[k]? = some x → ∀ j, j < C → (flat f l)[k * C + j]? = (f x)[j]? := by
  intro l
  induction l with
  | nil => intro k x h; simp at h
  | cons y l ih =>
    intro k x h j hj
    have hy := hf.len y
    have e : flat f (y :: l) = f y ++ flat f l := rfl
    rw [e]
    cases k with
    | zero =>
      simp at h; subst h
      rw [List.getElem?_append_left (by omega)]
      simp
    | succ k =>
      rw [List.getElem?_append_right (by rw [hy, Nat.succ_mul]; omega)]
      rw [← ih k x (by simpa using h) j hj]
      congr 1
      rw [hy, Nat.succ_mul]; omega
theorem flat_take (hf : Lays C f) (l : List X) (k : Nat) : flat f (l.take k) = (flat f l).take (k * C) := by
  induction l generalizing k with
  | nil => simp [flat]
  | cons y l ih =>
    have hy := hf.len y
    cases k with
    | zero => simp [flat]
    | succ k =>
      have h := ih k
      simp only [flat, List.take_succ_cons, List.flatMap_cons] at h ⊢
      have e1 : (f y).take ((k + 1) * C) = f y := List.take_of_length_le (by rw [hy, Nat.succ_mul]; omega)
      have e2 : (k + 1) * C - C = k * C := by rw [Nat.succ_mul]; omega
      rw [h, List.take_append, hy, e1, e2]
theorem flat_drop (hf : Lays C f) (l : List X) (k : Nat) : flat f (l.drop k) = (flat f l).drop (k * C) := by
  induction l generalizing k with
  | nil => simp [flat]
  | cons y l ih =>
    have hy := hf.len y
    cases k with
    | zero => simp [flat]
    | succ k =>
      have h := ih k
      simp only [flat, List.drop_succ_cons, List.flatMap_cons] at h ⊢
      have e1 : (f y).drop ((k + 1) * C) = [] := List.drop_of_length_le (by rw [hy, Nat.succ_mul]; omega)
      have e2 : (k + 1) * C - C = k * C := by rw [Nat.succ_mul]; omega
      rw [h, List.drop_append, hy, e1, e2, List.nil_append]

theorem flat_set (hf : Lays C f) (l : List X) (i : Nat) (x y : X) (j : Nat) (u : Value) (hx : l[i]? = some x) (hj : j < C) (hy : f y = (f x).set j u) : flat f (l.set i y) = (flat f l).set (i * C + j) u := by
  obtain ⟨hi, rfl⟩ := List.getElem?_eq_some_iff.1 hx
  have e1 : l.set i y = l.take i ++ y :: l.drop (i + 1) := by rw [List.set_eq_take_append_cons_drop, if_pos hi]
  have e2 : flat f l = flat f (l.take i) ++ (f l[i] ++ flat f (l.drop (i + 1))) := by
    have : l = l.take i ++ l[i] :: l.drop (i + 1) := by rw [← List.drop_eq_getElem_cons hi, List.take_append_drop]
    have h2 := congrArg (flat f) this
    exact h2.trans (by simp only [flat, List.flatMap_append, List.flatMap_cons])
  have hlen : (flat f (l.take i)).length = i * C := by rw [flat_len hf, List.length_take, Nat.min_eq_left (by omega)]
  have hl := hf.len l[i]
  rw [e1, e2]
  rw [List.set_append_right _ _ (by omega), hlen, Nat.add_sub_cancel_left, List.set_append_left _ _ (by omega), ← hy]
  simp only [flat, List.flatMap_append, List.flatMap_cons]

/-- The value is a slice that reads as l. -/
def Lx (C : Nat) (f : X → List Value) (w : World) (v : Value) (l : List X) : Prop := ∃ a cap, v = .slice a l.length cap ∧ IsSeq C f w a l ∧ l.length ≤ 9223372036854775807

theorem IsSeq.modx {w w' : World} {a : Option Addr} {xs : List X} {M : List Nat} (h : IsSeq C f w a xs) (hm : Mod M w w') (hd : ∀ b off, a = some ⟨b, off, none⟩ → b ∉ M) : IsSeq C f w' a xs := by
  rcases h with rfl | ⟨b, off, rfl, h⟩
  · exact Or.inl rfl
  · exact Or.inr ⟨b, off, rfl, fun i x hx j v hj => hm.cellSome (h i x hx j v hj) (hd b off rfl)⟩
theorem Lx.mod {w w' : World} {v : Value} {l : List X} (h : Lx C f w v l) (hm : Mod [] w w') : Lx C f w' v l := by
  obtain ⟨a, cap, rfl, h1, h2⟩ := h
  exact ⟨a, cap, rfl, h1.modx hm (by simp), h2⟩
theorem Lx.at {w : World} {a : Option Addr} {n cap : Nat} {l : List X} (h : Lx C f w (.slice a n cap) l) {i : Nat} {x : X} (hx : l[i]? = some x) :
    ∃ b off : Nat, a = some ⟨b, off, none⟩ ∧ ∀ j v, (f x)[j]? = some v → w.cell? ⟨b, off + i * C + j, none⟩ = some v := by
  obtain ⟨a', cap', hv, h1, h2⟩ := h
  simp only [Value.slice.injEq] at hv
  obtain ⟨rfl, rfl, rfl⟩ := hv
  exact h1.at (Mod.refl [] w) hx
theorem Lx.adr (hf : Lays C f) {w : World} {a : Option Addr} {n cap : Nat} {l : List X} (h : Lx C f w (.slice a n cap) l) (hn : 0 < n) : ∃ b off : Nat, a = some ⟨b, off, none⟩ := by
  have hl : l.length = n := by
    obtain ⟨a', cap', hv, _⟩ := h
    simp only [Value.slice.injEq] at hv
    exact hv.2.1.symm
  obtain ⟨x, hx⟩ : ∃ x, l[0]? = some x := ⟨_, List.getElem?_eq_getElem (by omega)⟩
  obtain ⟨b, off, h1, _⟩ := h.at hx
  exact ⟨b, off, h1⟩
theorem Lx.len {w : World} {a : Option Addr} {n cap : Nat} {l : List X} (h : Lx C f w (.slice a n cap) l) : l.length = n ∧ n ≤ 9223372036854775807 := by
  obtain ⟨a', cap', hv, _, h2⟩ := h
  simp only [Value.slice.injEq] at hv
  exact ⟨hv.2.1.symm, by omega⟩
theorem Lx.take {w : World} {a : Option Addr} {n cap m : Nat} {l : List X} (h : Lx C f w (.slice a n cap) l) (hm : m ≤ n) (c' : Nat) : Lx C f w (.slice a m c') (l.take m) := by
  obtain ⟨a', cap', hv, h1, h2⟩ := h
  simp only [Value.slice.injEq] at hv
  obtain ⟨rfl, rfl, rfl⟩ := hv
  have hl : (l.take m).length = m := by rw [List.length_take]; omega
  refine ⟨a, c', by rw [hl], ?_, by omega⟩
  rcases h1 with h0 | ⟨b', off', rfl, hc⟩
  · subst h0; exact Or.inl (by simp)
  · refine Or.inr ⟨b', off', rfl, fun i x hx j v hj => ?_⟩
    rw [List.getElem?_take] at hx
    split at hx
    · exact hc i x hx j v hj
    · cases hx
theorem Lx.drop {w : World} {b off n cap k : Nat} {l : List X} (h : Lx C f w (.slice (some ⟨b, off, none⟩) n cap) l) (hk : k ≤ n) (n' c' : Nat) (hn : n' = n - k) : Lx C f w (.slice (some ⟨b, off + k * C, none⟩) n' c') (l.drop k) := by
  obtain ⟨a', cap', hv, h1, h2⟩ := h
  simp only [Value.slice.injEq] at hv
  obtain ⟨rfl, rfl, rfl⟩ := hv
  subst hn
  refine ⟨_, _, by rw [List.length_drop], ?_, by rw [List.length_drop]; omega⟩
  rcases h1 with rfl | ⟨b', off', e, hc⟩
  · exact Or.inl (by simp)
  · simp only [Option.some.injEq, Addr.mk.injEq, and_true] at e
    obtain ⟨rfl, rfl⟩ := e
    refine Or.inr ⟨b, off + k * C, rfl, fun i x hx j v hj => ?_⟩
    rw [List.getElem?_drop] at hx
    have := hc (k + i) x hx j v hj
    rw [← this]
    congr 2
    rw [Nat.add_mul]; omega
theorem Lx.none {w : World} {P : List X} (a : Option Addr) (n' c' : Nat) (hP : P.length = 0) (hn : n' = 0) : Lx C f w (.slice a n' c') P := by
  obtain rfl := List.eq_nil_of_length_eq_zero hP
  subst hn
  exact ⟨a, c', rfl, Or.inl rfl, by simp⟩
theorem Own.lx (hf : Lays C f) {w : World} {E : TypeId} {v : Value} {l : List X} {L : List Nat} (h : Own w E C v l.length (flat f l) L) : Lx C f w v l := by
  obtain ⟨a, cap, rfl, h1, h2, h3⟩ := h.val
  refine ⟨a, cap, rfl, ?_, by omega⟩
  rcases Nat.eq_zero_or_pos l.length with h0 | h0
  · exact Or.inl (List.eq_nil_of_length_eq_zero h0)
  · obtain ⟨g, rfl, _, hc⟩ := h3 h0
    refine Or.inr ⟨g, 0, rfl, fun i x hx j v hj => ?_⟩
    have hjC : j < C := by rw [← hf.len x]; exact (List.getElem?_eq_some_iff.1 hj).1
    have hi := (List.getElem?_eq_some_iff.1 hx).1
    have e := flat_at hf _ i x hx j hjC
    have hlt : i * C + j < l.length * C := by
      calc i * C + j < i * C + C := by omega
        _ = (i + 1) * C := by rw [Nat.succ_mul]
        _ ≤ l.length * C := Nat.mul_le_mul_right _ hi
    rw [Nat.zero_add, hc _ hlt, e, hj]
theorem Lx.cellsOf (hf : Lays C f) {w : World} {b off n cap : Nat} {l : List X} (h : Lx C f w (.slice (some ⟨b, off, Option.none⟩) n cap) l) {i : Nat} (hi : i < n * C) : w.cell? ⟨b, off + i, Option.none⟩ = (flat f l)[i]? := by
  have hl := h.len.1
  have hp := hf.pos
  have hd : i / C < l.length := by rw [hl]; exact Nat.div_lt_of_lt_mul (by rw [Nat.mul_comm]; exact hi)
  have hx : l[i / C]? = some l[i / C] := List.getElem?_eq_getElem hd
  have hm := Nat.mod_lt i hp
  have e := flat_at hf l (i / C) _ hx (i % C) hm
  have e2 : i / C * C + i % C = i := by rw [Nat.mul_comm]; exact Nat.div_add_mod i C
  rw [e2] at e
  have hj : (f l[i / C])[i % C]? = some ((f l[i / C])[i % C]'(by rw [hf.len]; exact hm)) := List.getElem?_eq_getElem _
  obtain ⟨b', off', e3, hc⟩ := h.at hx
  simp only [Option.some.injEq, Addr.mk.injEq, and_true] at e3
  obtain ⟨rfl, rfl⟩ := e3
  have h := hc _ _ hj
  rw [e, hj, ← h]
  congr 2
  omega
theorem Lx.rdl (hf : Lays C f) {w : World} {v : Value} {l : List X} (h : Lx C f w v l) (hl : 0 < l.length) : Rdl w C v l.length (flat f l) := by
  have H := h
  obtain ⟨a, cap, rfl, h1, h2⟩ := h
  obtain ⟨b, off, rfl⟩ := Lx.adr hf H hl
  exact ⟨flat_len hf l, Or.inr ⟨b, off, cap, rfl, fun j hj => H.cellsOf hf hj⟩⟩
theorem Lx.src (hf : Lays C f) {P : Program} {w : World} {v : Value} {l : List X} (h : Lx C f w v l) : Src P w v C l.length (flat f l) := by
  have H := h
  obtain ⟨a, cap, rfl, h1, h2⟩ := h
  rcases Nat.eq_zero_or_pos l.length with h0 | h0
  · have := List.eq_nil_of_length_eq_zero h0
    subst this
    exact Src.none a C cap
  · obtain ⟨b, off, rfl⟩ := Lx.adr hf H h0
    exact Src.slice (fun i hi => H.cellsOf hf (by rw [flat_len hf] at hi; exact hi)) (flat_len hf l)

/-- A cell of an owned slice is set. -/
theorem Own.set {w : World} {E : TypeId} {sz g n cap : Nat} {xs : List Value} {L : List Nat} (h : Own w E sz (.slice (some ⟨g, 0, Option.none⟩) n cap) n xs L) (k : Nat) (hk : k < n * sz) (u : Value) :
    Own (w.setCell ⟨g, k, Option.none⟩ u) E sz (.slice (some ⟨g, 0, Option.none⟩) n cap) n (xs.set k u) L := by
  refine ⟨by rw [List.length_set]; exact h.1, ?_⟩
  rcases h.2 with ⟨h0, _⟩ | ⟨g', cap', cur, e, rfl, hb, h1, h2, h3, h4⟩
  · cases h0
  · simp only [Value.slice.injEq, Option.some.injEq, Addr.mk.injEq, and_true, true_and] at e
    obtain ⟨rfl, rfl⟩ := e
    refine Or.inr ⟨g, cap, cur.setIfInBounds k u, rfl, rfl, hb.set k u, h1, h2, by simpa using h3, ?_⟩
    rw [← h4, Array.toList_setIfInBounds, List.take_set]
theorem Own.blk {w : World} {E : TypeId} {sz g n cap : Nat} {xs : List Value} {L : List Nat} (h : Own w E sz (.slice (some ⟨g, 0, Option.none⟩) n cap) n xs L) : L = [g] ∧ (∃ cur, Blk w g cur E) ∧ n ≤ cap ∧ cap ≤ 9223372036854775807 := by
  rcases h.2 with ⟨h0, _⟩ | ⟨g', cap', cur, e, rfl, hb, h1, h2, _⟩
  · cases h0
  · simp only [Value.slice.injEq, Option.some.injEq, Addr.mk.injEq, and_true, true_and] at e
    obtain ⟨rfl, rfl⟩ := e
    exact ⟨rfl, ⟨cur, hb⟩, h1, by simpa [maxLen] using h2⟩
end
end
end Go.Proofs.YtibhkldnimfnkaaGreatDoor

/- copy into a place of a block, append of zeros without room: elements of some cells. No program in sight. -/
namespace Go.Proofs.YtibhkldnimfnkaaGreatDoor
section
set_option linter.unusedVariables false
set_option linter.unusedSimpArgs false
set_option linter.unusedSectionVars false
open Go.RowKit

/-- Some cells are written over. -/
def splice (cur : Array Value) (o : Nat) (ys : List Value) : Array Value := (cur.toList.take o ++ ys ++ cur.toList.drop (o + ys.length)).toArray
theorem splice_size (cur : Array Value) (o : Nat) (ys : List Value) (h : o + ys.length ≤ cur.size) : (splice cur o ys).size = cur.size := by
  simp [splice]; omega
theorem splice_toList (cur : Array Value) (o : Nat) (ys : List Value) : (splice cur o ys).toList = cur.toList.take o ++ ys ++ cur.toList.drop (o + ys.length) := by simp [splice]

theorem splice2_take (cur : Array Value) (F ys : List Value) (a s n : Nat) (hF : F.length = n) (hys : ys.length = s) (han : a ≤ n) (hc : n + s ≤ cur.size) (ht : cur.toList.take a = F.take a) :
    (splice (splice cur a ys) (a + s) (F.drop a)).toList.take (n + s) = F.take a ++ (ys ++ F.drop a) := by
  have h1 : (cur.toList.take a).length = a := by simp; omega
  rw [splice_toList, splice_toList]
  have h2 : (cur.toList.take a ++ ys ++ cur.toList.drop (a + ys.length)).take (a + s) = cur.toList.take a ++ ys := by
    rw [List.take_append_of_le_length (by simp; omega), List.take_of_length_le (by simp; omega)]
  rw [h2, List.take_append_of_le_length (by simp; omega), List.take_of_length_le (by simp; omega), ht, List.append_assoc]
theorem splice2_take' (cur : Array Value) (F ys : List Value) (a s n : Nat) (hF : F.length = n) (hys : ys.length = s) (han : a ≤ n) (hc : n + s ≤ cur.size) (ht : cur.toList.take n = F) :
    (splice (splice cur (a + s) (F.drop a)) a ys).toList.take (n + s) = F.take a ++ (ys ++ F.drop a) := by
  have h1 : (cur.toList.take (a + s)).length = a + s := by simp; omega
  have hta : cur.toList.take a = F.take a := by rw [← ht, List.take_take]; congr 1; omega
  rw [splice_toList, splice_toList]
  have h2 : (cur.toList.take (a + s) ++ F.drop a ++ cur.toList.drop (a + s + (F.drop a).length)).take a = F.take a := by
    rw [List.append_assoc, List.take_append_of_le_length (by omega), List.take_take, Nat.min_eq_left (by omega), hta]
  have h3 : (cur.toList.take (a + s) ++ F.drop a ++ cur.toList.drop (a + s + (F.drop a).length)).drop (a + ys.length) = F.drop a ++ cur.toList.drop (a + s + (F.drop a).length) := by
    rw [hys, List.append_assoc]
    exact List.drop_left' h1
  rw [h2, h3]
  have e : F.take a ++ ys ++ (F.drop a ++ cur.toList.drop (a + s + (F.drop a).length)) = (F.take a ++ (ys ++ F.drop a)) ++ cur.toList.drop (a + s + (F.drop a).length) := by simp
  rw [e]
  exact List.take_left' (by simp; omega)

section
variable {P : Program} {w : World}
theorem run_copy_at (dT sT ty elem : TypeId) (n cp m : Nat) (x : Value) (sz : Nat) (xs : List Value) (hu : P.underlying dT = some (.slice elem)) (hsz : (P.info? elem).map (·.size) = some sz)
    (hx : Src P w x sz m xs) (g o : Nat) (cur : Array Value) (t : TypeId) (hg : Blk w g cur t) (k : Nat) (hk : k = Nat.min n m) (hfit : o + k * sz ≤ cur.size) (h1 : ∀ v ∈ xs.take (k * sz), v.oneCell' = true) :
    ∃ w', (Builtin.copy_ #[dT, sT] ty #[.slice (some ⟨g, o, none⟩) n cp, x]).run P w = .ok (goInt k) w' ∧ Blk w' g (splice cur o (xs.take (k * sz))) t ∧ Mod [g] w w' := by
  cases hq : P.info? elem with
  | none => simp [hq] at hsz
  | some i =>
    have hi : i.size = sz := by simpa [hq] using hsz
    have hl := hx.all
    have hkm : k ≤ m := by rw [hk]; exact Nat.min_le_right _ _
    have hc := hx.cells k hkm
    have hlen : (xs.take (k * sz)).length = k * sz := by rw [List.length_take, hl]; exact Nat.min_eq_left (Nat.mul_le_mul_right _ hkm)
    have hst := run_storeCells_at P g o t (xs.take (k * sz)) 0 cur w hg (by rw [hlen]; omega) h1
    refine ⟨w.setRow g (splice cur o (xs.take (k * sz))), ?_, setRow_heap w g cur _ t _ hg, ⟨rfl, rfl, rfl, by simp, fun k _ hk => setRow_other w g k _ (by simpa using hk)⟩⟩
    have e : (cur.toList.take (o + 0) ++ xs.take (k * sz) ++ cur.toList.drop (o + 0 + (xs.take (k * sz)).length)).toArray = splice cur o (xs.take (k * sz)) := rfl
    rw [e] at hst
    have hk2 : m.min n = k := by rw [hk]; exact Nat.min_comm m n
    simp [Builtin.copy_, run_underlying hu, sizeOf, typeInfo, hq, hi, hx.len, hk2, hc, hst]

theorem wpList_copy_at {ops : Array Oper} {rest : List Oper} {o : Oper} {a : Act} {Q : Exit → Act → World → Prop} (hgd : o.guard = none) (d s : Operand) (dT sT : TypeId)
    (ho : o.op = .call { callee := .builtin .copy, args := #[d, s], argTypes := #[dT, sT] }) (elem : TypeId) (sz : Nat) (hu : P.underlying dT = some (.slice elem)) (hsz : (P.info? elem).map (·.size) = some sz)
    (n cp m : Nat) (x : Value) (hs : a.eval s = x) (xs : List Value) (hx : Src P w x sz m xs)
    (g off : Nat) (cur : Array Value) (t : TypeId) (hd : a.eval d = .slice (some ⟨g, off, none⟩) n cp) (hg : Blk w g cur t) (k : Nat) (hk : k = Nat.min n m) (hfit : off + k * sz ≤ cur.size) (h1 : ∀ v ∈ xs.take (k * sz), v.oneCell' = true)
    (h : ∀ w', Hid (Blk w' g (splice cur off (xs.take (k * sz))) t) → Hid (Mod [g] w w') → wpList P ops Q rest (a.put o.dst (goInt k)) w') :
    wpList P ops Q (o :: rest) a w := by
  obtain ⟨w', hrun, hb, hm⟩ := run_copy_at dT sT o.type elem n cp m x sz xs hu hsz hx g off cur t hg k hk hfit h1
  refine wpList_plain hgd fun K hK => ?_
  unfold Oper.wp
  simp [execOp, ho, resolve, invoke, builtin, hd, hs, hrun, Result.andThen]
  exact hK _ _ (h w' hb hm)

theorem step_copy_at {ops : Array Oper} {o : Oper} {a : Act} {K : Act → World → Prop} {Q : Exit → Act → World → Prop} {F : Prop} (hgd : o.guard = none) (d s : Operand) (dT sT : TypeId)
    (ho : o.op = .call { callee := .builtin .copy, args := #[d, s], argTypes := #[dT, sT] }) (elem : TypeId) (sz : Nat) (hu : P.underlying dT = some (.slice elem)) (hsz : (P.info? elem).map (·.size) = some sz)
    (n cp m : Nat) (x : Value) (hs : a.eval s = x) (xs : List Value) (hx : Src P w x sz m xs)
    (g off : Nat) (cur : Array Value) (t : TypeId) (hd : a.eval d = .slice (some ⟨g, off, none⟩) n cp) (hg : Blk w g cur t) (k : Nat) (hk : k = Nat.min n m) (hfit : off + k * sz ≤ cur.size) (h1 : ∀ v ∈ xs.take (k * sz), v.oneCell' = true)
    (h : ∀ w', Hid (Blk w' g (splice cur off (xs.take (k * sz))) t) → Hid (Mod [g] w w') → K (a.put o.dst (goInt k)) w') :
    if Region.wanted o (yielded ops a.tmps) = true then Oper.wp P o a w K Q else F := by
  have hw : Region.wanted o (yielded ops a.tmps) = true := by simp [Region.wanted, hgd]
  rw [if_pos hw]
  obtain ⟨w', hrun, hb, hm⟩ := run_copy_at dT sT o.type elem n cp m x sz xs hu hsz hx g off cur t hg k hk hfit h1
  unfold Oper.wp
  simp [execOp, ho, resolve, invoke, builtin, hd, hs, hrun, Result.andThen]
  exact h w' hb hm

/-- append(s[:i], make(.., k)..) without room: a new row whose first elements are those of s. -/
theorem run_append_zeros_own (t tn ty E : TypeId) (ht : P.underlying t = some (.slice E)) (htn : P.underlying tn = some (.int .i64)) {z : Value} {sz bytes : Nat} (he : (P.info? E).map (fun i => (i.zero, i.size, i.bytes)) = some (some z, sz, bytes)) (hzs : z.cells.size = sz) (hsz : 0 < sz)
    {a : Option Addr} {n cap : Nat} {xs : List Value} {L : List Nat} (hown : Own w E sz (.slice a n cap) n xs L) (i k : Nat) (hi : i ≤ n) (hk : 0 < k) (hroom : cap < i + k) (hbig : (i + k) * bytes ≤ 140737488355328) (h63 : i + k ≤ 9223372036854775807) :
    ∃ G w' cur, (Builtin.append_ #[t, tn] ty #[.slice a i cap, .int .i64 k]).run P w = .ok (.slice (some ⟨w.heap.size, 0, none⟩) (i + k) G) w' ∧ Blk w' w.heap.size cur E ∧ Mod [] w w' ∧ i + k ≤ G ∧ G ≤ maxLen ∧ G * sz ≤ cur.size ∧ cur.toList.take (i * sz) = xs.take (i * sz) := by
  obtain ⟨inf, hinf, hz, hsize, hby⟩ := info_parts he
  subst hsize
  subst hby
  have hold : (Builtin.firstCells inf.size i (.slice a i cap)).run P w.drew = .ok (xs.take (i * inf.size)).toArray w.drew := by
    rcases hown.2 with ⟨e, h0, _⟩ | ⟨g, cap', cur, e, _, hb, h1, h2, h3, h4⟩
    · simp only [Value.slice.injEq] at e
      obtain ⟨rfl, rfl, rfl⟩ := e
      obtain rfl : i = 0 := by omega
      simp [Builtin.firstCells, loadCells, loadCellsFrom]
    · simp only [Value.slice.injEq] at e
      obtain ⟨rfl, _, rfl⟩ := e
      have hs := Src.slice (P := P) (w := w.drew) (b := g) (off := 0) (size := inf.size) (m := i) (cap := cap) (cs := xs.take (i * inf.size)) (fun j hj => by
        rw [List.length_take] at hj
        have hj1 : j < i * inf.size := by omega
        have hj2 : j < n * inf.size := Nat.lt_of_lt_of_le hj1 (Nat.mul_le_mul_right _ hi)
        rw [Nat.zero_add, hb.drew.cell, ← h4, List.take_take, Nat.min_eq_left (Nat.mul_le_mul_right _ hi), List.getElem?_take, if_pos hj1]
        simp) (by rw [List.length_take, hown.1]; exact Nat.min_eq_left (Nat.mul_le_mul_right _ hi))
      have := hs.cells i (Nat.le_refl _)
      rw [List.take_of_length_le (by rw [List.length_take]; omega)] at this
      exact this
  have hr := Lib.run_append_grow_zeros w t tn ty E inf z .i64 .i64 ht htn hinf hz a i cap (xs.take (i * inf.size)) hold k hk hsz hroom (by omega) (by
    have : k * inf.bytes ≤ (i + k) * inf.bytes := Nat.mul_le_mul_right _ (by omega)
    omega) (growslice_fits hroom hbig)
  have h63' : i + k ≤ maxLen := by simpa [maxLen] using h63
  have hge := grownCap_ge w (i + k) cap E
  refine ⟨_, _, _, hr, Blk.new w.drew _ _, ((Mod.refl [] w).drew.alloc _), hge, grownCap_le_maxLen w (i + k) cap E h63', ?_, ?_⟩
  · have hlt : (xs.take (i * inf.size)).length = i * inf.size := by rw [List.length_take, hown.1]; exact Nat.min_eq_left (Nat.mul_le_mul_right _ hi)
    simp only [Array.size_append, List.size_toArray, size_zeroCells, hzs, hlt, ← Nat.add_mul]
    exact Nat.mul_le_mul_right _ (by omega)
  · have hlt : (xs.take (i * inf.size)).length = i * inf.size := by rw [List.length_take, hown.1]; exact Nat.min_eq_left (Nat.mul_le_mul_right _ hi)
    simp only [Array.toList_append, List.append_assoc]
    exact List.take_left' hlt
end
end
end Go.Proofs.YtibhkldnimfnkaaGreatDoor

/- append with room, as a law of the owned slice; the owned slice's beginnings. No program in sight. -/
namespace Go.Proofs.YtibhkldnimfnkaaGreatDoor
section
set_option linter.unusedVariables false
set_option linter.unusedSimpArgs false
set_option linter.unusedSectionVars false
open Go.RowKit

section
variable {P : Program} {w : World}
theorem run_append_room_own (t ty E : TypeId) {z : Value} {sz bytes : Nat} (ht : P.underlying t = some (.slice E)) (he : (P.info? E).map (fun i => (i.zero, i.size, i.bytes)) = some (some z, sz, bytes))
    {g n cap : Nat} {xs : List Value} (hown : Own w E sz (.slice (some ⟨g, 0, none⟩) n cap) n xs [g]) {x : Value} {m : Nat} {ys : List Value} (hx : Rdl w sz x m ys) (h1 : ∀ u ∈ ys, u.oneCell' = true) (hroom : n + m ≤ cap) :
    ∃ w', (Builtin.append_ #[t, t] ty #[.slice (some ⟨g, 0, none⟩) n cap, x]).run P w = .ok (.slice (some ⟨g, 0, none⟩) (n + m) cap) w' ∧ Own w' E sz (.slice (some ⟨g, 0, none⟩) (n + m) cap) (n + m) (xs ++ ys) [g] ∧ Mod [g] w w' := by
  obtain ⟨i, hi, hz, hsize, hby⟩ := info_parts he
  subst hsize
  rcases hown.2 with ⟨h0, _⟩ | ⟨g', cap', cur, e, _, hb, hnc, hcm, hcs, htake⟩
  · cases h0
  simp only [Value.slice.injEq, Option.some.injEq, Addr.mk.injEq, and_true, true_and] at e
  obtain ⟨rfl, rfl⟩ := e
  have hlen : (xs ++ ys).length = (n + m) * i.size := by rw [List.length_append, hown.1, hx.1, Nat.add_mul]
  rcases hx.2 with ⟨rfl, rfl⟩ | ⟨b, off, cp, rfl, hc⟩
  · have hys : ys = [] := List.eq_nil_of_length_eq_zero (by simpa using hx.1)
    subst hys
    refine ⟨w, ?_, by simpa using hown, Mod.refl _ _⟩
    simp [Builtin.append_, run_underlying ht, sizeOf, typeInfo, hi, Builtin.lenOf, Builtin.firstCells, hnc, storeCells]
  · have hnews : ∀ j u, ys[j]? = some u → w.cell? ((⟨b, off, none⟩ : Addr).add j) = some u := by
      intro j u hj
      have hjl : j < ys.length := by
        rcases Nat.lt_or_ge j ys.length with h | h
        · exact h
        · rw [List.getElem?_eq_none h] at hj; cases hj
      have hadd : (⟨b, off, none⟩ : Addr).add j = ⟨b, off + j, none⟩ := by unfold Addr.add; split <;> simp_all
      rw [hadd, hc j (by rw [← hx.1]; exact hjl)]; exact hj
    have hfit : n * i.size + ys.length ≤ cur.size := by rw [hx.1, ← Nat.add_mul]; exact Nat.le_trans (Nat.mul_le_mul_right _ hroom) hcs
    have hr := run_append_room (P := P) w t ty E i ht hi g n cap cur hb ⟨b, off, none⟩ m cp ys hx.1 hnews h1 hroom hfit
    refine ⟨_, hr, ⟨hlen, Or.inr ⟨g, cap, _, rfl, rfl, setRow_heap w g cur _ E _ hb, hroom, hcm, ?_, ?_⟩⟩, ⟨rfl, rfl, rfl, by simp, fun k _ hk => setRow_other w g k _ (by simpa using hk)⟩⟩
    · simp only [List.size_toArray, List.length_append, List.length_take, List.length_drop, Array.length_toList]
      omega
    · rw [htake, ← hlen]
      exact List.take_left

theorem step_append_room {ops : Array Oper} {o : Oper} {a : Act} {K : Act → World → Prop} {Q : Exit → Act → World → Prop} {F : Prop} (hgd : o.guard = none) (s x : Operand) (t E : TypeId)
    (ho : o.op = .call { callee := .builtin .append, args := #[s, x], argTypes := #[t, t] })
    {z : Value} {sz bytes : Nat} (ht : P.underlying t = some (.slice E)) (he : (P.info? E).map (fun i => (i.zero, i.size, i.bytes)) = some (some z, sz, bytes))
    (g n cap : Nat) (xs : List Value) (hs : a.eval s = .slice (some ⟨g, 0, none⟩) n cap) (hown : Own w E sz (.slice (some ⟨g, 0, none⟩) n cap) n xs [g]) (y : Value) (hy : a.eval x = y) (m : Nat) (ys : List Value) (hx : Rdl w sz y m ys) (h1 : ∀ u ∈ ys, u.oneCell' = true)
    (hroom : n + m ≤ cap)
    (h : ∀ w', Hid (Own w' E sz (.slice (some ⟨g, 0, none⟩) (n + m) cap) (n + m) (xs ++ ys) [g]) → Hid (Mod [g] w w') → K (a.put o.dst (.slice (some ⟨g, 0, none⟩) (n + m) cap)) w') :
    if Region.wanted o (yielded ops a.tmps) = true then Oper.wp P o a w K Q else F := by
  have hw : Region.wanted o (yielded ops a.tmps) = true := by simp [Region.wanted, hgd]
  rw [if_pos hw]
  obtain ⟨w', hrun, h2, h3⟩ := run_append_room_own (P := P) t o.type E ht he hown hx h1 hroom
  unfold Oper.wp
  simp [execOp, ho, resolve, invoke, builtin, hs, hy, hrun, Result.andThen]
  exact h w' h2 h3

theorem Own.begin {E : TypeId} {sz g n cap k : Nat} {xs : List Value} {L : List Nat} (h : Own w E sz (.slice (some ⟨g, 0, none⟩) n cap) n xs L) (hk : k ≤ n) : Own w E sz (.slice (some ⟨g, 0, none⟩) k cap) k (xs.take (k * sz)) L := by
  have hm : k * sz ≤ n * sz := Nat.mul_le_mul_right _ hk
  refine ⟨by rw [List.length_take, h.1]; exact Nat.min_eq_left hm, ?_⟩
  rcases h.2 with ⟨h0, _⟩ | ⟨g', cap', cur, e, e2, hb, hnc, hcm, hcs, htake⟩
  · cases h0
  simp only [Value.slice.injEq, Option.some.injEq, Addr.mk.injEq, and_true, true_and] at e
  obtain ⟨rfl, rfl⟩ := e
  refine Or.inr ⟨g, cap, cur, rfl, e2, hb, by omega, hcm, hcs, ?_⟩
  rw [← htake, List.take_take, Nat.min_eq_left hm]
/-- Of an owned slice the end is read. -/
theorem Own.ending {E : TypeId} {sz g n cap k : Nat} {xs : List Value} {L : List Nat} (h : Own w E sz (.slice (some ⟨g, 0, none⟩) n cap) n xs L) (hk : k ≤ n) (c' off : Nat) (ho : k < n → off = k * sz) : Rdl w sz (.slice (some ⟨g, off, none⟩) (n - k) c') (n - k) (xs.drop (k * sz)) := by
  have hm : k * sz ≤ n * sz := Nat.mul_le_mul_right _ hk
  have hms : k * sz + (n - k) * sz = n * sz := by rw [← Nat.add_mul]; congr 1; omega
  refine ⟨by rw [List.length_drop, h.1]; omega, Or.inr ⟨g, off, c', rfl, fun j hj => ?_⟩⟩
  rcases h.2 with ⟨h0, _⟩ | ⟨g', cap', cur, e, e2, hb, hnc, hcm, hcs, htake⟩
  · cases h0
  simp only [Value.slice.injEq, Option.some.injEq, Addr.mk.injEq, and_true, true_and] at e
  obtain ⟨rfl, rfl⟩ := e
  have hkn : k < n := by
    rcases Nat.lt_or_ge k n with h | h
    · exact h
    · have : n - k = 0 := by omega
      rw [this, Nat.zero_mul] at hj; omega
  rw [ho hkn, hb.cell, ← htake, List.getElem?_drop, List.getElem?_take, if_pos (by omega)]
  simp
/-- A block that is the same below an offset still holds an owned slice's elements. -/
theorem Own.keep {w' : World} {E : TypeId} {sz g n cap : Nat} {xs : List Value} {cur cur' : Array Value} (h : Own w E sz (.slice (some ⟨g, 0, none⟩) n cap) n xs [g]) (hb : Blk w g cur E) (hb' : Blk w' g cur' E) (hs : cur'.size = cur.size) (hc : ∀ j, j < n * sz → cur'[j]? = cur[j]?) :
    Own w' E sz (.slice (some ⟨g, 0, none⟩) n cap) n xs [g] := by
  refine ⟨h.1, ?_⟩
  rcases h.2 with ⟨h0, _⟩ | ⟨g', cap', cur2, e, e2, hb2, hnc, hcm, hcs, htake⟩
  · cases h0
  simp only [Value.slice.injEq, Option.some.injEq, Addr.mk.injEq, and_true, true_and] at e
  obtain ⟨rfl, rfl⟩ := e
  obtain rfl := hb.inj hb2
  refine Or.inr ⟨g, cap, cur', rfl, rfl, hb', hnc, hcm, by omega, ?_⟩
  rw [← htake]
  apply List.ext_getElem?
  intro j
  rw [List.getElem?_take, List.getElem?_take]
  split
  · rename_i hj
    have := hc j hj
    simpa using this
  · rfl
end
end
end Go.Proofs.YtibhkldnimfnkaaGreatDoor

/- append of what is read (empty or not); a slice that lies somewhere in a block of its own (Seg). No program in sight. -/
namespace Go.Proofs.YtibhkldnimfnkaaGreatDoor
section
set_option linter.unusedVariables false
set_option linter.unusedSimpArgs false
set_option linter.unusedSectionVars false
open Go.RowKit

section
variable {X : Type} {C : Nat} {f : X → List Value} {P : Program} {w : World}
theorem run_append_lx (hf : Lays C f) (t ty E : TypeId) {z : Value} {bytes : Nat} (ht : P.underlying t = some (.slice E)) (he : (P.info? E).map (fun i => (i.zero, i.size, i.bytes)) = some (some z, C, bytes)) (hzs : z.cells.size = C)
    {v : Value} {n : Nat} {xs : List Value} {L : List Nat} (hown : Own w E C v n xs L) {y : Value} {l : List X} (hx : Lx C f w y l)
    (h63 : n + l.length ≤ 9223372036854775807) (hbytes : (n + l.length) * bytes ≤ 140737488355328) :
    ∃ v' w' L', (Builtin.append_ #[t, t] ty #[v, y]).run P w = .ok v' w' ∧ Own w' E C v' (n + l.length) (xs ++ flat f l) L' ∧ Mod L w w' ∧ (∀ k ∈ L', k ∈ L ∨ w.heap.size ≤ k) := by
  rcases Nat.eq_zero_or_pos l.length with h0 | h0
  · have hnil := List.eq_nil_of_length_eq_zero h0
    subst hnil
    obtain ⟨a, cap, rfl, _, _⟩ := hx
    obtain ⟨ad, c, rfl, hnc, _⟩ := hown.val
    have hsz : (P.info? E).map (·.size) = some C := by
      cases hq : P.info? E with
      | none => simp [hq] at he
      | some i => simp [hq] at he; simp [he]
    refine ⟨_, w, L, run_append_none t ty E ht hsz ad n c hnc a cap, by simpa [flat] using hown, Mod.refl _ _, fun k hk => Or.inl hk⟩
  · exact run_append_rdl t ty E ht he hzs hf.pos hown (hx.rdl hf h0) (flat_one hf l) h63 hbytes

theorem wpList_append_lx (hf : Lays C f) {ops : Array Oper} {rest : List Oper} {o : Oper} {a : Act} {Q : Exit → Act → World → Prop} (hgd : o.guard = none) (s x : Operand) (t E : TypeId)
    (ho : o.op = .call { callee := .builtin .append, args := #[s, x], argTypes := #[t, t] })
    {z : Value} {bytes : Nat} (ht : P.underlying t = some (.slice E)) (he : (P.info? E).map (fun i => (i.zero, i.size, i.bytes)) = some (some z, C, bytes)) (hzs : z.cells.size = C)
    {v : Value} (hs : a.eval s = v) {n : Nat} {xs : List Value} {L : List Nat} (hown : Own w E C v n xs L) {y : Value} (hy : a.eval x = y) {l : List X} (hx : Lx C f w y l)
    (h63 : n + l.length ≤ 9223372036854775807) (hbytes : (n + l.length) * bytes ≤ 140737488355328)
    (h : ∀ v' w' L', Hid (Own w' E C v' (n + l.length) (xs ++ flat f l) L') → Hid (Mod L w w') → Hid (∀ k ∈ L', k ∈ L ∨ w.heap.size ≤ k) → wpList P ops Q rest (a.put o.dst v') w') :
    wpList P ops Q (o :: rest) a w := by
  obtain ⟨v', w', L', hrun, h2, h3, h4⟩ := run_append_lx (P := P) hf t o.type E ht he hzs hown hx h63 hbytes
  refine wpList_plain hgd fun K hK => ?_
  unfold Oper.wp
  simp [execOp, ho, resolve, invoke, builtin, hs, hy, hrun, Result.andThen]
  exact hK _ _ (h v' w' L' h2 h3 h4)

theorem step_append_lx (hf : Lays C f) {ops : Array Oper} {o : Oper} {a : Act} {K : Act → World → Prop} {Q : Exit → Act → World → Prop} {F : Prop} (hgd : o.guard = none) (s x : Operand) (t E : TypeId)
    (ho : o.op = .call { callee := .builtin .append, args := #[s, x], argTypes := #[t, t] })
    {z : Value} {bytes : Nat} (ht : P.underlying t = some (.slice E)) (he : (P.info? E).map (fun i => (i.zero, i.size, i.bytes)) = some (some z, C, bytes)) (hzs : z.cells.size = C)
    {v : Value} (hs : a.eval s = v) {n : Nat} {xs : List Value} {L : List Nat} (hown : Own w E C v n xs L) {y : Value} (hy : a.eval x = y) {l : List X} (hx : Lx C f w y l)
    (h63 : n + l.length ≤ 9223372036854775807) (hbytes : (n + l.length) * bytes ≤ 140737488355328)
    (h : ∀ v' w' L', Hid (Own w' E C v' (n + l.length) (xs ++ flat f l) L') → Hid (Mod L w w') → Hid (∀ k ∈ L', k ∈ L ∨ w.heap.size ≤ k) → K (a.put o.dst v') w') :
    if Region.wanted o (yielded ops a.tmps) = true then Oper.wp P o a w K Q else F := by
  have hw : Region.wanted o (yielded ops a.tmps) = true := by simp [Region.wanted, hgd]
  rw [if_pos hw]
  obtain ⟨v', w', L', hrun, h2, h3, h4⟩ := run_append_lx (P := P) hf t o.type E ht he hzs hown hx h63 hbytes
  unfold Oper.wp
  simp [execOp, ho, resolve, invoke, builtin, hs, hy, hrun, Result.andThen]
  exact h v' w' L' h2 h3 h4
end

/-- The value is a slice of n elements (sz cells each), which hold xs; they lie in a block of its own, from some place on. -/
def Seg (w : World) (E : TypeId) (sz : Nat) (v : Value) (n : Nat) (xs : List Value) (L : List Nat) : Prop :=
  xs.length = n * sz ∧ ((n = 0 ∧ L = [] ∧ ∃ a cap, v = .slice a 0 cap ∧ (a = none ∧ cap = 0 ∨ ∃ g off, a = some ⟨g, off, none⟩)) ∨
    ∃ g off cap cur, v = .slice (some ⟨g, off, none⟩) n cap ∧ L = [g] ∧ Blk w g cur E ∧ n ≤ cap ∧ off + n * sz ≤ cur.size ∧ ∀ j, j < n * sz → cur[off + j]? = xs[j]?)

theorem Own.seg {w : World} {E : TypeId} {sz : Nat} {v : Value} {n : Nat} {xs : List Value} {L : List Nat} (h : Own w E sz v n xs L) : Seg w E sz v n xs L := by
  refine ⟨h.1, ?_⟩
  rcases h.2 with ⟨rfl, h0, rfl⟩ | ⟨g, cap, cur, rfl, rfl, hb, h1, h2, h3, h4⟩
  · exact Or.inl ⟨h0, rfl, none, 0, rfl, Or.inl ⟨rfl, rfl⟩⟩
  · refine Or.inr ⟨g, 0, cap, cur, rfl, rfl, hb, h1, ?_, fun j hj => ?_⟩
    · rw [Nat.zero_add]; exact Nat.le_trans (Nat.mul_le_mul_right _ h1) h3
    · rw [Nat.zero_add, ← h4, List.getElem?_take, if_pos hj]; simp
theorem Seg.lt {w : World} {E : TypeId} {sz : Nat} {v : Value} {n : Nat} {xs : List Value} {L : List Nat} (h : Seg w E sz v n xs L) : ∀ k ∈ L, k < w.heap.size := by
  intro k hk
  rcases h.2 with ⟨_, rfl, _⟩ | ⟨g, off, cap, cur, _, rfl, hb, _⟩
  · cases hk
  · simp at hk; subst hk; exact hb.lt
theorem Seg.mod {w w' : World} {E : TypeId} {sz : Nat} {v : Value} {n : Nat} {xs : List Value} {L M : List Nat} (h : Seg w E sz v n xs L) (hm : Mod M w w') (hd : ∀ k ∈ L, k ∉ M) : Seg w' E sz v n xs L := by
  refine ⟨h.1, ?_⟩
  rcases h.2 with h0 | ⟨g, off, cap, cur, h1, h2, hb, h3⟩
  · exact Or.inl h0
  · exact Or.inr ⟨g, off, cap, cur, h1, h2, hm.blk hb (hd g (by rw [h2]; simp)), h3⟩
theorem Seg.lx {X : Type} {C : Nat} {f : X → List Value} (hf : Lays C f) {w : World} {E : TypeId} {v : Value} {l : List X} {L : List Nat} (h : Seg w E C v l.length (flat f l) L) (hl : l.length ≤ 9223372036854775807) : Lx C f w v l := by
  rcases h.2 with ⟨h0, rfl, a, cap, rfl, _⟩ | ⟨g, off, cap, cur, rfl, rfl, hb, h1, h2, h3⟩
  · have := List.eq_nil_of_length_eq_zero h0
    subst this
    exact ⟨a, cap, rfl, Or.inl rfl, by simp⟩
  · refine ⟨_, cap, rfl, Or.inr ⟨g, off, rfl, fun i x hx j v hj => ?_⟩, hl⟩
    have hjC : j < C := by rw [← hf.len x]; exact (List.getElem?_eq_some_iff.1 hj).1
    have hi := (List.getElem?_eq_some_iff.1 hx).1
    have e := flat_at hf _ i x hx j hjC
    have hlt : i * C + j < l.length * C := by
      calc i * C + j < i * C + C := by omega
        _ = (i + 1) * C := by rw [Nat.succ_mul]
        _ ≤ l.length * C := Nat.mul_le_mul_right _ hi
    rw [hb.cell, Nat.add_assoc, h3 _ hlt, e, hj]
theorem Seg.val {w : World} {E : TypeId} {sz : Nat} {v : Value} {n : Nat} {xs : List Value} {L : List Nat} (h : Seg w E sz v n xs L) : ∃ a cap, v = .slice a n cap ∧ n ≤ cap ∧ (a = none ∧ cap = 0 ∧ n = 0 ∨ ∃ g off, a = some ⟨g, off, none⟩) ∧ (0 < n → ∃ g off, a = some ⟨g, off, none⟩ ∧ L = [g] ∧ ∃ cur, Blk w g cur E) := by
  rcases h.2 with ⟨rfl, _, a, cap, rfl, h0⟩ | ⟨g, off, cap, cur, rfl, rfl, hb, h1, _⟩
  · exact ⟨a, cap, rfl, Nat.zero_le _, h0.imp (fun h => ⟨h.1, h.2, rfl⟩) id, fun h => by omega⟩
  · exact ⟨_, cap, rfl, h1, Or.inr ⟨g, off, rfl⟩, fun _ => ⟨g, off, rfl, rfl, cur, hb⟩⟩
theorem Seg.set {w : World} {E : TypeId} {sz g off n cap : Nat} {xs : List Value} {L : List Nat} (h : Seg w E sz (.slice (some ⟨g, off, none⟩) n cap) n xs L) (k : Nat) (hk : k < n * sz) (u : Value) :
    Seg (w.setCell ⟨g, off + k, none⟩ u) E sz (.slice (some ⟨g, off, none⟩) n cap) n (xs.set k u) L := by
  refine ⟨by rw [List.length_set]; exact h.1, ?_⟩
  rcases h.2 with ⟨h0, _⟩ | ⟨g', off', cap', cur, e, rfl, hb, h1, h2, h3⟩
  · subst h0; simp at hk
  · simp only [Value.slice.injEq, Option.some.injEq, Addr.mk.injEq, and_true, true_and] at e
    obtain ⟨⟨rfl, rfl⟩, rfl⟩ := e
    refine Or.inr ⟨g, off, cap, cur.setIfInBounds (off + k) u, rfl, rfl, hb.set (off + k) u, h1, by simpa using h2, fun j hj => ?_⟩
    rw [Array.getElem?_setIfInBounds, List.getElem?_set]
    by_cases e : k = j
    · subst e
      have hlt : off + k < cur.size := by omega
      have hxl : k < xs.length := by rw [h.1]; exact hk
      simp [hlt, hxl]
    · rw [if_neg (by omega), if_neg e, h3 j hj]
/-- The end of it. -/
theorem Seg.drop {w : World} {E : TypeId} {sz g off n cap : Nat} {xs : List Value} {L : List Nat} (h : Seg w E sz (.slice (some ⟨g, off, none⟩) n cap) n xs L) (k : Nat) (hk : k < n) (c' : Nat) (hc : n - k ≤ c') :
    Seg w E sz (.slice (some ⟨g, off + k * sz, none⟩) (n - k) c') (n - k) (xs.drop (k * sz)) L := by
  have hms : k * sz + (n - k) * sz = n * sz := by rw [← Nat.add_mul]; congr 1; omega
  refine ⟨by rw [List.length_drop, h.1]; omega, ?_⟩
  rcases h.2 with ⟨h0, _⟩ | ⟨g', off', cap', cur, e, rfl, hb, h1, h2, h3⟩
  · omega
  · simp only [Value.slice.injEq, Option.some.injEq, Addr.mk.injEq, and_true, true_and] at e
    obtain ⟨⟨rfl, rfl⟩, rfl⟩ := e
    refine Or.inr ⟨g, off + k * sz, c', cur, rfl, rfl, hb, hc, by omega, fun j hj => ?_⟩
    rw [List.getElem?_drop, ← h3 _ (by omega)]
    congr 1
    omega
theorem Seg.nil (w : World) (E : TypeId) (sz : Nat) : Seg w E sz (.slice none 0 0) 0 [] [] := ⟨by simp, Or.inl ⟨rfl, rfl, none, 0, rfl, Or.inl ⟨rfl, rfl⟩⟩⟩
theorem Seg.empty (w : World) (E : TypeId) (sz g off cap : Nat) : Seg w E sz (.slice (some ⟨g, off, none⟩) 0 cap) 0 [] [] := ⟨by simp, Or.inl ⟨rfl, rfl, _, cap, rfl, Or.inr ⟨g, off, rfl⟩⟩⟩
end
end Go.Proofs.YtibhkldnimfnkaaGreatDoor

/- A load may be taken first where nobody who may come before it writes its cell: the condition S is asked behind every operation but 'z', and what is taken first must be one that 'z' waits for. -/
namespace Go.Proofs.YtibhkldnimfnkaaGreatDoor
section
set_option linter.unusedVariables false
set_option linter.unusedSimpArgs false
set_option linter.unusedSectionVars false

section
variable {P : Program} {ops : Array Oper} {Q : Exit → Act → World → Prop} {md : Region.Mode} {S : World → Prop} {z : Nat}

def chain (md : Region.Mode) (ops : Array Oper) (listed : Array Bool) : List Nat → Bool
  | [] => true
  | [x] => !listed.getD x false
  | x :: y :: r => !listed.getD x false && ((ops[x]?).map (fun o => o.after.any fun e => Region.binds md e && e.on == y)).getD false && chain md ops listed (y :: r)

theorem chain_head {listed : Array Bool} {x : Nat} {r : List Nat} (h : chain md ops listed (x :: r) = true) : listed.getD x false = false := by
  cases r with
  | nil => simpa [chain] using h
  | cons y r => simp only [chain, Bool.and_eq_true, Bool.not_eq_true'] at h; exact h.1.1

theorem chain_all {listed : Array Bool} : ∀ (l : List Nat), chain md ops listed l = true → ∀ x ∈ l, listed.getD x false = false := by
  intro l
  induction l with
  | nil => intro _ x h; simp at h
  | cons x r ih =>
    intro h y hy
    rcases List.mem_cons.1 hy with rfl | hy
    · exact chain_head h
    · cases r with
      | nil => simp at hy
      | cons z r =>
        simp only [chain, Bool.and_eq_true] at h
        exact ih h.2 y hy

theorem chain_step {j : Nat} {listed : Array Bool} (hj : j ∈ Region.ready md ops listed) : ∀ (l : List Nat) (i : Nat), l.getLast? = some i → j ≠ i → chain md ops listed l = true → j ∉ l ∧ chain md ops (listed.setIfInBounds j true) l = true := by
  intro l
  induction l with
  | nil => intro i h; simp at h
  | cons x r ih =>
    intro i hl hne hc
    cases r with
    | nil =>
      simp at hl
      subst hl
      refine ⟨by simpa using hne, ?_⟩
      simp only [chain] at hc ⊢
      rw [getD_set_ne false hne]
      exact hc
    | cons y r =>
      simp only [chain, Bool.and_eq_true] at hc
      obtain ⟨⟨h1, h2⟩, h3⟩ := hc
      obtain ⟨g1, g2⟩ := ih i (by simpa using hl) hne h3
      have hjx : j ≠ x := by
        rintro rfl
        obtain ⟨_, o, ho, hall⟩ := mem_ready.1 hj
        simp only [ho, Option.map_some, Option.getD_some, Array.any_eq_true, Bool.and_eq_true, beq_iff_eq] at h2
        obtain ⟨n, hn, hb, he⟩ := h2
        have := hall o.after[n] (Array.getElem_mem hn) hb
        rw [he, chain_head h3] at this
        cases this
      refine ⟨by simp only [List.mem_cons, not_or] at g1 ⊢; exact ⟨hjx, g1⟩, ?_⟩
      simp only [chain, Bool.and_eq_true]
      refine ⟨⟨?_, h2⟩, g2⟩
      rw [getD_set_ne false hjx]
      exact h1

def wpAnyK (P : Program) (md : Region.Mode) (ops : Array Oper) (Q : Exit → Act → World → Prop) (S : World → Prop) (z : Nat) : Nat → Array Bool → Act → World → Prop
  | 0, listed, a, w => Region.ready md ops listed = [] ∧ Q .normal a w
  | fuel + 1, listed, a, w =>
    (Region.ready md ops listed = [] → Q .normal a w) ∧
    ∀ i ∈ Region.ready md ops listed, wpOp P ops Q i (fun a' w' => (i ≠ z → listed.getD z false = false → S w') ∧ wpAnyK P md ops Q S z fuel (listed.setIfInBounds i true) a' w') a w

theorem wpAny_of_K : ∀ (fuel : Nat) (listed : Array Bool) (a : Act) (w : World), wpAnyK P md ops Q S z fuel listed a w → wpAny P md ops Q fuel listed a w
  | 0, _, _, _, h => h
  | fuel + 1, _, _, _, h => ⟨h.1, fun i hi => wpOp_mono (fun a' w' h' => wpAny_of_K fuel _ a' w' h'.2) (h.2 i hi)⟩

theorem wpAnyK_first {i : Nat} {oi : Oper} {v : Value} (hi : ops[i]? = some oi) (hsel : ∀ (j : Nat) (o : Oper) cs b, ops[j]? = some o → o.op ≠ .select cs b)
    (hQ : ∀ c a w, Q (.panic c) (a.put oi.dst v) w → Q (.panic c) a w) (l : List Nat) (hl : l.getLast? = some i) (hz : z ∈ l) (hzi : i ≠ z) :
    ∀ (fuel : Nat) (listed : Array Bool) (a : Act) (w : World),
      (∀ j oj, ops[j]? = some oj → j ≠ i → listed.getD j true = false → (∀ e ∈ oj.after, Region.binds md e = true → e.on ≠ i) → oi.apart ops oj = true) →
      chain md ops listed l = true →
      i ∈ Region.ready md ops listed → YieldsIf P ops S oi v a → S w →
      wpAnyK P md ops Q S z fuel (listed.setIfInBounds i true) (a.put oi.dst v) w → wpAnyK P md ops Q S z (fuel + 1) listed a w := by
  intro fuel
  induction fuel with
  | zero =>
    intro listed a w _ _ hr hy hS H
    refine ⟨fun h => (by rw [h] at hr; cases hr), fun j hj => ?_⟩
    by_cases hji : j = i
    · subst hji; exact hy.wpOp hi hS ⟨fun _ _ => hS, H⟩
    · have := ready_mono hj hji
      rw [H.1] at this
      cases this
  | succ fuel ih =>
    intro listed a w hfree hch hr hy hS H
    refine ⟨fun h => (by rw [h] at hr; cases hr), fun j hj => ?_⟩
    by_cases hji : j = i
    · subst hji; exact hy.wpOp hi hS ⟨fun _ _ => hS, H⟩
    · have h1 := H.2 j (ready_mono hj hji)
      obtain ⟨hjun, oj, hoj, hall⟩ := mem_ready.1 hj
      have hnot : ∀ e ∈ oj.after, Region.binds md e = true → e.on ≠ i := fun e he hb heq => by
        have h1 := hall e he hb
        have h0 := (mem_ready.1 hr).1
        rw [heq] at h1
        rcases Nat.lt_or_ge i listed.size with h' | h'
        · simp [h'] at h0 h1; rw [h0] at h1; cases h1
        · simp [Array.getElem?_eq_none h'] at h1
      obtain ⟨hjl, hch'⟩ := chain_step hj l i hl hji hch
      have hjz : j ≠ z := fun e => hjl (e ▸ hz)
      have h2 := wpOp_putIf hoj (hfree j oj hoj hji hjun hnot) (fun cs b => hsel i oi cs b hi) (fun cs b => hsel j oj cs b hoj) hQ hy h1
      have hfree' : ∀ k ok, ops[k]? = some ok → k ≠ i → (listed.setIfInBounds j true).getD k true = false →
          (∀ e ∈ ok.after, Region.binds md e = true → e.on ≠ i) → oi.apart ops ok = true := fun k ok hk hki hun hno => by
        refine hfree k ok hk hki ?_ hno
        by_cases hjk : j = k
        · subst hjk; exact hjun
        · rw [getD_set_ne true hjk] at hun; exact hun
      refine wpOp_mono (fun a' w' h3 => ⟨fun hz1 hz2 => h3.2.1 hz1 (by rw [getD_set_ne false hzi]; exact hz2), ih (listed.setIfInBounds j true) a' w' hfree' hch' (ready_mono hr (Ne.symm hji)) h3.1 (h3.2.1 hjz (by rw [getD_set_ne false hzi]; exact chain_all l hch z hz)) ?_⟩) h2
      rw [Array.setIfInBounds_comm _ _ hji]
      exact h3.2.2

theorem wpAnyK_take {i : Nat} {oi : Oper} {v : Value} {fuel : Nat} {listed : Array Bool} {a : Act} {w : World} (l : List Nat) (hi : ops[i]? = some oi)
    (hs : Region.noSelect ops = true) (hf : Region.free md ops listed i = true) (hr : (Region.ready md ops listed).contains i = true)
    (hc : chain md ops listed l = true) (hl : (l.getLast? == some i && l.contains z && i != z) = true)
    (hQ : ∀ c a w, Q (.panic c) (a.put oi.dst v) w → Q (.panic c) a w) (hy : YieldsIf P ops S oi v a) (hS : S w)
    (h : wpAnyK P md ops Q S z fuel (listed.setIfInBounds i true) (a.put oi.dst v) w) : wpAnyK P md ops Q S z (fuel + 1) listed a w := by
  simp only [Bool.and_eq_true, beq_iff_eq, List.contains_iff_mem, bne_iff_ne, ne_eq] at hl
  exact wpAnyK_first hi (Region.noSelect_spec hs) hQ l hl.1.1 hl.1.2 hl.2 fuel listed a w (Region.free_spec hi hf) hc (by simpa using hr) hy hS h

theorem wpAnyK_one {i : Nat} {oi : Oper} {fuel : Nat} {listed : Array Bool} {a : Act} {w : World} (hr : Region.ready md ops listed = [i]) (hi : ops[i]? = some oi)
    (hw : Region.wanted oi (yielded ops a.tmps) = true)
    (h : ∀ K : Act → World → Prop, Go.Shut (∀ a' w', ((i ≠ z → listed.getD z false = false → S w') ∧ wpAnyK P md ops Q S z fuel (listed.setIfInBounds i true) a' w') → K a' w') → Oper.wp P oi a w K Q) : wpAnyK P md ops Q S z (fuel + 1) listed a w := by
  refine ⟨fun h0 => (by rw [hr] at h0; cases h0), fun j hj => ?_⟩
  rw [hr] at hj
  obtain rfl := List.mem_singleton.1 hj
  unfold wpOp
  simp only [hi, hw, if_true]
  exact .inl (h _ (fun _ _ h => h))

theorem wpAnyK_done {listed : Array Bool} {a : Act} {w : World} (hr : Region.ready md ops listed = []) (h : Q .normal a w) :
    ∀ fuel, wpAnyK P md ops Q S z fuel listed a w
  | 0 => ⟨hr, h⟩
  | _ + 1 => ⟨fun _ => h, by rw [hr]; simp⟩

theorem wp_region_K {id : Nat} {a : Act} {w : World} (z : Nat) (S : World → Prop) (hm : P.follows .mixedOrders = true)
    (h : wpAnyK P .any ops Q S z ops.size (Array.replicate ops.size false) a w.drew) : (Code.region id ops true).wp P Q a w :=
  wp_region_any hm (wpAny_of_K _ _ _ _ h)

end
end
end Go.Proofs.YtibhkldnimfnkaaGreatDoor
