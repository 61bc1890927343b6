/- An item's text, and how it is put. -/
import Derived.Test.YtmjbpnoemdnhbaaI1
import Derived.Test.YtmjbpnoemdnhbaaU1
namespace Go.Proofs.Ytmjbpnoemdnhbaa
open Go.RowKit

def cut (s : ByteArray) (k : Nat) : ByteArray := if s.size ≤ k then s else s.extract 0 k

theorem cut_size (s : ByteArray) (k : Nat) : (cut s k).size ≤ k := by
  unfold cut; split
  · assumption
  · simp; omega

def itemV (x : Item) : Value := .agg #[.bool x.isT, .string x.s, .int .u64 x.n]
def itemB (x : Item) : ByteArray := if x.isT then textB (cut x.s 200) else ⟨(Wire.digits x.n).toArray⟩

theorem itemB_size (x : Item) : (itemB x).size ≤ 210 := by
  have h1 := cut_size x.s 200
  unfold itemB; split
  · have := digits_len10 (cut x.s 200).size (by omega)
    simp [textB, ByteArray.size_mk']; omega
  · have := digits_len10 x.n x.hn
    simp [ByteArray.size_mk']; omega

theorem text_i (x : Item) (w : World) :
    Calls Try.prog 12 #[.agg #[.bool x.isT, .string x.s, .int .u64 x.n]] w fun e w' => e = .returned (.string (cut x.s 200)) ∧ Mod [] w w' := by
  have hs := x.hs
  rcases Nat.lt_or_ge 200 x.s.size with h | h
  · have hc : Hid (cut x.s 200 = x.s.extract 0 200) := by show _ = _; unfold cut; rw [if_neg (by omega)]
    go_enter Try.func12, Try.ntmps12
    go_wp2
    go_ret
    exact ⟨ret_val (congrArg Value.string hc.out.symm), (Mod.refl _ _).alloc _⟩
  · have hc : Hid (cut x.s 200 = x.s) := by show _ = _; unfold cut; rw [if_pos h]
    go_enter Try.func12, Try.ntmps12
    go_wp2
    go_ret
    exact ⟨ret_val (congrArg Value.string hc.out.symm), (Mod.refl _ _).alloc _⟩

theorem put_i (x : Item) (s : ByteArray) (w : World) (hs : s.size ≤ 140737488351232) :
    Calls Try.prog 10 #[.agg #[.bool x.isT, .string x.s, .int .u64 x.n], .string s] w fun e w' => e = .returned (.string (s ++ itemB x)) ∧ Mod [] w w' := by
  have hcs := cut_size x.s 200
  cases hT : x.isT
  · have hi : Hid (itemB x = ⟨(Wire.digits x.n).toArray⟩) := by show _ = _; unfold itemB; rw [hT]; rfl
    go_enter Try.func10, Try.ntmps10
    go_wp2_with fail
    refine (put_c s x.n _ hs x.hn).mono ?_
    rintro e w1 ⟨rfl, hm⟩
    go_wp2
    go_ret
    exact ⟨ret_val (by rw [hi.out]; rfl), ((Mod.refl [] w).alloc _).tr hm⟩
  · have hi : Hid (itemB x = textB (cut x.s 200)) := by show _ = _; unfold itemB; rw [hT]; rfl
    have ht := text_i x
    rw [hT] at ht
    have ht := hid ht
    rename_i hx; clear hx
    go_enter Try.func10, Try.ntmps10
    go_wp2_with fail
    refine (ht.out _).mono ?_
    rintro e w1 ⟨rfl, hm⟩
    go_wp2_with fail
    refine (putText_c s _ _ hs (by omega)).mono ?_
    rintro e w2 ⟨rfl, hm2⟩
    go_wp2
    go_ret
    exact ⟨ret_val (by rw [hi.out]; rfl), (((Mod.refl [] w).alloc _).tr hm).tr hm2⟩

/-- The cells of the i-th item, later on. -/
theorem items_at {w wr : World} {a : Option Addr} {xs : List Item} {k : Nat} {x : Item} (h : IsItems w a xs) (hm : Mod [] w wr) (hx : xs[k]? = some x) : ∃ b off : Nat, a = some ⟨b, off, none⟩ ∧
    wr.cell? ⟨b, off + k * 3, none⟩ = some (.bool x.isT) ∧ wr.cell? ⟨b, off + k * 3 + 1, none⟩ = some (.string x.s) ∧ wr.cell? ⟨b, off + k * 3 + 2, none⟩ = some (.int .u64 x.n) := by
  rcases h with rfl | ⟨b, off, rfl, h⟩
  · simp at hx
  · obtain ⟨h0, h1, h2⟩ := h k x hx
    exact ⟨b, off, rfl, hm.cellSome h0 (by simp), hm.cellSome h1 (by simp), hm.cellSome h2 (by simp)⟩
end Go.Proofs.Ytmjbpnoemdnhbaa
