/- The letters' frames, and how many of each there are. No program in sight. -/
import Derived.Test.YtmcflfknaleljaaO2
import Derived.Test.YtmcflfknaleljaaT0
import Derived.Test.YtmcflfknaleljaaI0
namespace Go.Proofs.Ytmcflfknaleljaa
set_option linter.unusedVariables false
set_option linter.unusedSimpArgs false
open Go.RowKit

abbrev Let := Fin 8
def cS (c : Let) : ByteArray := ⟨[UInt8.ofNat (97 + c.1)].toArray⟩
def cF (c : Let) : Fr := ⟨((c.1 % 2 : Nat) : Int), cS c⟩
def cL (ls : List Let) : List Fr := ls.map cF
def cN (ls : List Let) (j : Nat) : Nat := (ls.map Fin.val).count j
def cA (ls : List Let) : Array Value := ((List.range 8).map fun j => Value.int .i64 (cN ls j)).toArray
def cDrop (ls : List Let) (k : Nat) : List Let := ls.take k ++ ls.drop (k + 1)

def Fr.cells (f : Fr) : Array Value := #[.int .i64 f.dst, .string f.s]
theorem cL_len (ls : List Let) : (cL ls).length = ls.length := by simp [cL]
theorem c_ne (c : Let) : (cS c).toList.isEmpty = false := by rw [ByteArray.toList_eq]; rfl
theorem c_putE (ls : List Let) (c : Let) (h : ls.length < 400) : putE (cL ls) (cF c) = 0 := by
  have : c.1 % 2 < 2 := Nat.mod_lt _ (by decide)
  unfold putE
  rw [cL_len, if_neg (by simp only [cF, c_ne, Bool.false_eq_true, or_false]; omega), if_neg (by omega)]
theorem c_putL (ls : List Let) (c : Let) (h : ls.length < 400) : putL (cL ls) (cF c) = cL (ls ++ [c]) := by
  have : c.1 % 2 < 2 := Nat.mod_lt _ (by decide)
  unfold putL
  rw [cL_len, if_neg (by simp only [cF, c_ne, Bool.false_eq_true, or_false]; omega), if_neg (by omega)]
  simp [cL]
theorem c_at (ls : List Let) (q : Nat) (c : Let) (h : ls[q]? = some c) : atE (cL ls) q = 0 ∧ atF (cL ls) q = cF c := by
  have hq : q < ls.length := (List.getElem?_eq_some_iff.1 h).1
  have hin : inb (cL ls) (q : Int) := ⟨by omega, by rw [cL_len]; omega⟩
  have hc : (cL ls)[q]? = some (cF c) := by simp [cL, h]
  refine ⟨by unfold atE; rw [if_pos hin], ?_⟩
  unfold atF
  rw [if_pos hin]
  simp [hc]
theorem c_tw (ls : List Let) (q : Nat) (c : Let) (h : ls[q]? = some c) (hl : ls.length < 400) : twE (cL ls) q = 0 ∧ twL (cL ls) q = cL (ls ++ [c]) := by
  have hq : q < ls.length := (List.getElem?_eq_some_iff.1 h).1
  have hin : inb (cL ls) (q : Int) := ⟨by omega, by rw [cL_len]; omega⟩
  have ha := (c_at ls q c h).2
  refine ⟨by unfold twE; rw [if_pos hin, ha]; exact c_putE ls c hl, by unfold twL; rw [if_pos hin, ha]; exact c_putL ls c hl⟩
theorem c_drop (ls : List Let) (q : Nat) (h : q < ls.length) : dropF (cL ls) q = cL (cDrop ls q) := by
  have hin : inb (cL ls) (q : Int) := ⟨by omega, by rw [cL_len]; omega⟩
  unfold dropF
  rw [if_pos hin]
  simp [dropL, cL, cDrop, List.map_take, List.map_drop]
theorem c_none (k : Int) : atE (cL []) k = 5 := by
  unfold atE; rw [if_neg]; intro h; have := h.2; simp [cL] at this; have := h.1; omega
theorem c_nodrop (k : Int) : dropF (cL []) k = cL [] := by
  unfold dropF; rw [if_neg]; intro h; have := h.2; simp [cL] at this; have := h.1; omega
theorem cDrop_len (ls : List Let) (q : Nat) (h : q < ls.length) : (cDrop ls q).length = ls.length - 1 := by simp [cDrop]; omega

theorem cA_at (ls : List Let) (j : Nat) (h : j < 8) : (cA ls)[j]? = some (.int .i64 (cN ls j)) := by
  simp [cA, h]
theorem cA_set (ls ls' : List Let) (c : Nat) (n : Int) (hc : ((cN ls' c : Nat) : Int) = n) (ho : ∀ j, j ≠ c → cN ls' j = cN ls j) : (cA ls).setIfInBounds c (.int .i64 n) = cA ls' := by
  apply Array.ext_getElem?
  intro j
  rw [Array.getElem?_setIfInBounds]
  by_cases hj : j < 8
  · split
    · rename_i h
      subst h
      rw [if_pos (by simp [cA]; omega), cA_at _ _ hj, hc]
    · rename_i h
      rw [cA_at _ _ hj, cA_at _ _ hj, ho j (Ne.symm h)]
  · have h1 : (cA ls)[j]? = none := by simp [cA]; omega
    have h2 : (cA ls')[j]? = none := by simp [cA]; omega
    rw [h1, h2]
    split
    · rw [if_neg (by simp [cA]; omega)]
    · rfl
theorem cA_put (ls : List Let) (c : Let) : (cA ls).setIfInBounds c.1 (.int .i64 ((cN ls c.1 : Nat) + 1 : Int)) = cA (ls ++ [c]) := by
  refine cA_set _ _ _ _ ?_ ?_
  · simp [cN]
  · intro j hj
    simp [cN, Ne.symm hj]
theorem c_split (ls : List Let) (q : Nat) (c : Let) (h : ls[q]? = some c) : ls = ls.take q ++ c :: ls.drop (q + 1) := by
  obtain ⟨h1, rfl⟩ := List.getElem?_eq_some_iff.1 h
  rw [List.getElem_cons_drop h1, List.take_append_drop]
theorem cN_pos (ls : List Let) (q : Nat) (c : Let) (h : ls[q]? = some c) : 0 < cN ls c.1 := by
  rw [c_split ls q c h]; simp [cN, List.count_append]; omega
theorem cA_drop (ls : List Let) (q : Nat) (c : Let) (h : ls[q]? = some c) : (cA ls).setIfInBounds c.1 (.int .i64 ((cN ls c.1 : Nat) - 1 : Int)) = cA (cDrop ls q) := by
  refine cA_set _ _ _ _ ?_ ?_
  · have e := c_split ls q c h
    have : cN ls c.1 = cN (cDrop ls q) c.1 + 1 := by
      conv => lhs; rw [e]
      simp [cN, cDrop, List.count_append]; omega
    omega
  · intro j hj
    have e := c_split ls q c h
    conv => rhs; rw [e]
    simp [cN, cDrop, List.count_append, List.count_cons, Ne.symm hj]
theorem cS_size (c : Let) : 0 < (cS c).size := by revert c; decide +kernel
theorem cS_ix (c : Let) : (((cS c)[0]'(cS_size c)).toNat - 97 : Int) % 256 = c.1 := by revert c; decide +kernel
theorem cS_ge (c : Let) : Op.bytesLess (cS c).toList [97] = false := by revert c; decide +kernel
theorem cS_le (c : Let) : (!Op.bytesLess (cS c).toList [104] && (cS c).toList != [104]) = false := by revert c; decide +kernel
theorem cS_le' (c : Let) : (!(Op.bytesLess (cS c).toList [104] || (cS c).toList == [104])) = false := by revert c; decide +kernel
theorem cN_le (ls : List Let) (j : Nat) : cN ls j ≤ ls.length := by
  have := List.count_le_length (a := j) (l := ls.map Fin.val)
  simpa [cN] using this

end Go.Proofs.Ytmcflfknaleljaa
