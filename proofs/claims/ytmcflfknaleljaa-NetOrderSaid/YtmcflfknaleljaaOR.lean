/- The list of texts beside the bag. -/
import Derived.Test.YtmcflfknaleljaaO2
import Derived.Test.YtmcflfknaleljaaT0
import Derived.Test.YtmcflfknaleljaaI0
namespace Go.Proofs.Ytmcflfknaleljaa
set_option linter.unusedVariables false
set_option linter.unusedSimpArgs false
open Go.RowKit

def oS (i : Nat) : ByteArray := ⟨[UInt8.ofNat (i % 256), UInt8.ofNat (i / 256 % 256), 120].toArray⟩
def oF (i : Nat) : Fr := ⟨((i % 2 : Nat) : Int), oS i⟩
def oL (n : Nat) : List Fr := (List.range n).map oF
def strs (fs : List Fr) : List Value := fs.map fun f => .string f.s

theorem oL_len (n : Nat) : (oL n).length = n := by simp [oL]
theorem o_ne (i : Nat) : (oS i).toList.isEmpty = false := by rw [ByteArray.toList_eq]; rfl
theorem o_putE (n : Nat) (h : n < 400) : putE (oL n) (oF n) = 0 := by
  have : n % 2 < 2 := Nat.mod_lt _ (by decide)
  unfold putE
  rw [oL_len, if_neg (by simp only [oF, o_ne, Bool.false_eq_true, or_false]; omega), if_neg (by omega)]
theorem o_putL (n : Nat) (h : n < 400) : putL (oL n) (oF n) = oL (n + 1) := by
  have : n % 2 < 2 := Nat.mod_lt _ (by decide)
  unfold putL
  rw [oL_len, if_neg (by simp only [oF, o_ne, Bool.false_eq_true, or_false]; omega), if_neg (by omega)]
  simp [oL, List.range_succ]
theorem strs_len (fs : List Fr) : (strs fs).length = fs.length := by simp [strs]
theorem strs_one (fs : List Fr) : ∀ u ∈ strs fs, u.oneCell' = true := by
  intro u hu
  simp [strs] at hu
  obtain ⟨f, _, rfl⟩ := hu
  rfl
theorem strs_dropL (fs : List Fr) (k : Nat) : strs (dropL fs k) = (strs fs).take k ++ (strs fs).drop (k + 1) := by
  simp [strs, dropL, List.map_take, List.map_drop]

theorem elem_str : (Try.prog.info? 9).map (fun i => (i.zero, i.size, i.bytes)) = some (some (.string ⟨#[]⟩), 1, 16) := by kernel_rfl

/-- The first k elements, with no room behind them. -/
theorem Own.full {w : World} {E : TypeId} {g n cap k : Nat} {xs : List Value} {L : List Nat} (h : Own w E 1 (.slice (some ⟨g, 0, none⟩) n cap) n xs L) (hk : k ≤ n) : Own w E 1 (.slice (some ⟨g, 0, none⟩) k k) k (xs.take k) L := by
  obtain ⟨hl, h⟩ := h
  rcases h with ⟨h, _⟩ | ⟨g', cap', cur, hv, rfl, hb, h1, h2, h3, h4⟩
  · cases h
  · simp only [Value.slice.injEq, Option.some.injEq, Addr.mk.injEq, and_true, true_and] at hv
    obtain ⟨rfl, rfl⟩ := hv
    refine ⟨by simp; omega, Or.inr ⟨g, k, cur, rfl, rfl, hb, Nat.le_refl _, by omega, by omega, ?_⟩⟩
    rw [← h4, List.take_take]
    congr 1
    omega
/-- The elements from the k-th on. -/
theorem Own.from {w : World} {E : TypeId} {g n cap k : Nat} {xs : List Value} {L : List Nat} (h : Own w E 1 (.slice (some ⟨g, 0, none⟩) n cap) n xs L) (hk : k ≤ n) (c : Nat) : Rdl w 1 (.slice (some ⟨g, k, none⟩) (n - k) c) (n - k) (xs.drop k) := by
  obtain ⟨a, cp, hv, _, _, hc⟩ := h.val
  simp only [Value.slice.injEq, true_and] at hv
  obtain ⟨rfl, rfl⟩ := hv
  refine ⟨by rw [List.length_drop, h.1]; omega, Or.inr ⟨g, k, c, rfl, fun j hj => ?_⟩⟩
  obtain ⟨g', hg', _, hcell⟩ := hc (by omega)
  simp at hg'
  subst hg'
  rw [hcell _ (by omega), List.getElem?_drop]

end Go.Proofs.Ytmcflfknaleljaa
