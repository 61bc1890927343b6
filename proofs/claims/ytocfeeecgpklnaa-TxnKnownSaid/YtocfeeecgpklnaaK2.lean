/- The builtin copy as a law: out of a string or a slice into a block that is known whole. No program in sight. -/
import Derived.Test.YtocfeeecgpklnaaK1
import Derived.Laws.CopyOwn
import Derived.Deep.RegionLaw
import Derived.Deep.CutRange
import Derived.Deep.CutBlock
import Derived.BigQuiet
import Derived.Deep.QuietTactic
namespace Go.Proofs.Ytocfeeecgpklnaa
open Go.RowKit

/-- The bytes of a string, as cells. -/
def bytesV (l : List UInt8) : List Value := l.map fun c => Value.int .u8 c.toNat

/-- What a copy or an append reads out of its second operand: how many elements it has, and the first n cells. -/
structure Src (P : Program) (w : World) (x : Value) (size m : Nat) (cs : List Value) : Prop where
  len : (Builtin.lenOf x).run P w = .ok m w
  cells : ∀ n, n ≤ m → (Builtin.firstCells size n x).run P w = .ok (cs.take (n * size)).toArray w
  all : cs.length = m * size

theorem Src.string (P : Program) (w : World) (s : ByteArray) : Src P w (.string s) 1 s.size (bytesV s.data.toList) := by
  refine ⟨rfl, fun n _ => ?_, by simp [bytesV]⟩
  show Result.ok _ w = _
  congr 1
  apply Array.toList_inj.1
  simp [bytesV]

theorem Src.slice {P : Program} {w : World} {b off size m cap : Nat} {cs : List Value} (hc : ∀ i, i < cs.length → w.cell? ⟨b, off + i, none⟩ = cs[i]?) (hl : cs.length = m * size) : Src P w (.slice (some ⟨b, off, none⟩) m cap) size m cs := by
  refine ⟨rfl, fun n hn => ?_, hl⟩
  have := run_loadCells_list (P := P) w ⟨b, off, none⟩ (cs.take (n * size)) (fun j v hj => by
    have hj2 : j < (cs.take (n * size)).length := by
      rcases Nat.lt_or_ge j (cs.take (n * size)).length with h | h
      · exact h
      · rw [List.getElem?_eq_none h] at hj; cases hj
    have hadd : (⟨b, off, none⟩ : Addr).add j = ⟨b, off + j, none⟩ := by unfold Addr.add; split <;> simp_all
    rw [hadd, hc j (by simp at hj2; omega)]
    rw [List.getElem?_take] at hj
    split at hj
    · exact hj
    · cases hj)
  have hm : n * size ≤ m * size := Nat.mul_le_mul_right _ hn
  have e : (cs.take (n * size)).length = n * size := by simp; omega
  rw [e] at this
  exact this

theorem Src.nil (P : Program) (w : World) (size cap : Nat) : Src P w (.slice none 0 cap) size 0 [] := ⟨rfl, fun n hn => by
  show Result.ok _ w = _
  simp, by simp⟩

theorem bytesV_one (l : List UInt8) : ∀ v ∈ bytesV l, v.oneCell' = true := by
  intro v hv
  simp [bytesV] at hv
  obtain ⟨c, _, rfl⟩ := hv
  rfl
theorem bytesV_len (l : List UInt8) : (bytesV l).length = l.length := by simp [bytesV]
theorem take_all {α : Type} (l : List α) (a b : Nat) (h1 : l.length ≤ a) (h2 : l.length ≤ b) : l = l.take (Nat.min a b) := by
  rw [List.take_of_length_le (Nat.le_min.2 ⟨h1, h2⟩)]

section
variable {P : Program} {w : World}

/-- copy, run. -/
theorem run_copy_src (dT sT ty elem : TypeId) (dp : Option Addr) (dLen dCap : Nat) (x : Value) (m : Nat) (xs : List Value) (hu : P.underlying dT = some (.slice elem)) (hsz : (P.info? elem).map (·.size) = some 1)
    (hx : Src P w x 1 m xs) (g off : Nat) (cur : List Value) (t : TypeId) (hg : Blk w g cur.toArray t) (cs : List Value) (hcs : cs = xs.take (Nat.min m dLen))
    (hpos : 0 < cs.length → dp = some ⟨g, off, none⟩) (hfit : off + cs.length ≤ cur.length) (h1 : ∀ v ∈ cs, v.oneCell' = true) :
    ∃ w', (Builtin.copy_ #[dT, sT] ty #[.slice dp dLen dCap, x]).run P w = .ok (goInt cs.length) w' ∧ Blk w' g (splice cur off cs).toArray t ∧ Mod [g] w w' := by
  have hn : cs.length = Nat.min m dLen := by
    have := hx.all
    rw [hcs, List.length_take]
    have : Nat.min m dLen ≤ m := Nat.min_le_left _ _
    omega
  have hc := hx.cells (Nat.min m dLen) (Nat.min_le_left _ _)
  rw [Nat.mul_one, ← hcs, ← hn] at hc
  cases hq : P.info? elem with
  | none => simp [hq] at hsz
  | some i =>
    have hi : i.size = 1 := by simpa [hq] using hsz
    cases dp with
    | none =>
      have h0 : cs.length = 0 := by
        rcases Nat.eq_zero_or_pos cs.length with h | h
        · exact h
        · cases hpos h
      obtain rfl : cs = [] := List.eq_nil_of_length_eq_zero h0
      simp only [List.length_nil] at hc hn
      refine ⟨w, ?_, ?_, Mod.refl _ _⟩
      · simp [Builtin.copy_, run_underlying hu, sizeOf, typeInfo, hq, hi, hx.len, hc, ← hn]
      · have e : splice cur off ([] : List Value) = cur := by simp [splice]
        rw [e]; exact hg
    | some ad =>
      by_cases h0 : cs.length = 0
      · obtain rfl : cs = [] := List.eq_nil_of_length_eq_zero h0
        simp only [List.length_nil] at hc hn
        refine ⟨w, ?_, ?_, Mod.refl _ _⟩
        · simp [Builtin.copy_, run_underlying hu, sizeOf, typeInfo, hq, hi, hx.len, hc, ← hn, storeCells]
        · have e : splice cur off ([] : List Value) = cur := by simp [splice]
          rw [e]; exact hg
      · have hp := hpos (by omega)
        simp only [Option.some.injEq] at hp
        subst hp
        have hst := run_storeCells_at P g off t cs 0 cur.toArray w hg (by simpa using hfit) h1
        refine ⟨w.setRow g (splice cur off cs).toArray, ?_, setRow_heap w g _ _ t _ hg, ⟨rfl, rfl, rfl, by simp, fun k _ hk => setRow_other w g k _ (by simpa using hk)⟩⟩
        simp [Builtin.copy_, run_underlying hu, sizeOf, typeInfo, hq, hi, hx.len, hc, ← hn, hst, splice]

/-- copy as a step of a region that draws its order. -/
theorem step_copy_src {ops : Array Oper} {o : Oper} {a : Act} {K : Act → World → Prop} {Q : Exit → Act → World → Prop} {E : Prop} (hgd : o.guard = none) (d s : Operand) (dT sT : TypeId)
    (ho : o.op = .call { callee := .builtin .copy, args := #[d, s], argTypes := #[dT, sT] }) (elem : TypeId) (hu : P.underlying dT = some (.slice elem)) (hsz : (P.info? elem).map (·.size) = some 1)
    (dp : Option Addr) (dLen dCap : Nat) (hd : a.eval d = .slice dp dLen dCap) (x : Value) (hs : a.eval s = x) (m : Nat) (xs : List Value) (hx : Src P w x 1 m xs)
    (g off : Nat) (cur : List Value) (t : TypeId) (hg : Blk w g cur.toArray t) (cs : List Value) (hcs : cs = xs.take (Nat.min m dLen))
    (hpos : 0 < cs.length → dp = some ⟨g, off, none⟩) (hfit : off + cs.length ≤ cur.length) (h1 : ∀ v ∈ cs, v.oneCell' = true) (n : Nat) (hn : cs.length = n)
    (h : ∀ w', Hid (Blk w' g (splice cur off cs).toArray t) → Hid (Mod [g] w w') → K (a.put o.dst (goInt n)) w') :
    if Region.wanted o (yielded ops a.tmps) = true then Oper.wp P o a w K Q else E := by
  have hw : Region.wanted o (yielded ops a.tmps) = true := by simp [Region.wanted, hgd]
  rw [if_pos hw]
  subst hn
  obtain ⟨w', hrun, hb, hm⟩ := run_copy_src dT sT o.type elem dp dLen dCap x m xs hu hsz hx g off cur t hg cs hcs hpos hfit h1
  unfold Oper.wp
  simp [execOp, ho, resolve, invoke, builtin, hd, hs, hrun, Result.andThen]
  exact h w' hb hm

/-- copy in a list of operations. -/
theorem wpList_copy_src {ops : Array Oper} {rest : List Oper} {o : Oper} {a : Act} {Q : Exit → Act → World → Prop} (hgd : o.guard = none) (d s : Operand) (dT sT : TypeId)
    (ho : o.op = .call { callee := .builtin .copy, args := #[d, s], argTypes := #[dT, sT] }) (elem : TypeId) (hu : P.underlying dT = some (.slice elem)) (hsz : (P.info? elem).map (·.size) = some 1)
    (dp : Option Addr) (dLen dCap : Nat) (hd : a.eval d = .slice dp dLen dCap) (x : Value) (hs : a.eval s = x) (m : Nat) (xs : List Value) (hx : Src P w x 1 m xs)
    (g off : Nat) (cur : List Value) (t : TypeId) (hg : Blk w g cur.toArray t) (cs : List Value) (hcs : cs = xs.take (Nat.min m dLen))
    (hpos : 0 < cs.length → dp = some ⟨g, off, none⟩) (hfit : off + cs.length ≤ cur.length) (h1 : ∀ v ∈ cs, v.oneCell' = true) (n : Nat) (hn : cs.length = n)
    (h : ∀ w', Hid (Blk w' g (splice cur off cs).toArray t) → Hid (Mod [g] w w') → wpList P ops Q rest (a.put o.dst (goInt n)) w') :
    wpList P ops Q (o :: rest) a w := by
  subst hn
  obtain ⟨w', hrun, hb, hm⟩ := run_copy_src dT sT o.type elem dp dLen dCap x m xs hu hsz hx g off cur t hg cs hcs hpos hfit h1
  refine wpList_plain hgd fun K hK => ?_
  unfold Oper.wp
  simp [execOp, ho, resolve, invoke, builtin, hd, hs, hrun, Result.andThen]
  exact hK _ _ (h w' hb hm)
end

/-- make([]T, n), T of one cell: n zeros. -/
theorem run_make_zeros {P : Program} (w : World) (t e : TypeId) (i : TypeInfo) (z : Value) (ht : P.underlying t = some (.slice e)) (hi : P.info? e = some i) (hz : i.zero = some z) (h1 : i.size = 1) (hz1 : z.cells = #[z])
    (kl kc : IntKind) (c : Int) (L : Nat) (hc : c = L) (hbytes : i.bytes * L ≤ 281474976710656) (h63 : L ≤ 9223372036854775807) :
    (Instr.makeSlice t (.int kl c) (.int kc c)).run P w = .ok (.slice (some ⟨w.heap.size, 0, none⟩) L L) (w.alloc (.cells (List.replicate L z).toArray e)) := by
  subst hc
  have hb' : (i.bytes : Int) * (L : Int) ≤ 281474976710656 := by
    have h : ((i.bytes * L : Nat) : Int) ≤ 281474976710656 := by omega
    rwa [Int.natCast_mul] at h
  have hr := run_make (P := P) w t e i z ht hi hz kl kc L L (by omega) (by omega) hb' (by omega)
  rw [hr, h1, hz1]
  have e : madeCells #[z] ((L : Int).toNat * 1) = (List.replicate L z).toArray := by
    apply Array.toList_inj.1
    simp [madeCells, Nat.mod_one]
    apply List.ext_getElem
    · simp
    · intro k h1 h2; simp
  rw [e]; simp
end Go.Proofs.Ytocfeeecgpklnaa
