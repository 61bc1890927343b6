/- The iterator backwards over a list. -/
import Derived.Test.YtmdomihpohekiaaV2
import Derived.RangeFuncNested
import Derived.RangeFuncBound
import Derived.RangeFuncCalls
import Derived.RangeFuncLeaves
import Derived.Shelf.Abstract
import Derived.OwnWalkIn
import Derived.TacticsInMore
import Derived.LoopNIn
import Derived.LoopIn
namespace Go.Proofs.Ytmdomihpohekiaa
set_option linter.unusedVariables false
set_option linter.unusedSimpArgs false
set_option linter.unusedSectionVars false
open Go.RowKit Go.Shelf
attribute [local go_sem] Oper.semAt_some

/-- What has come when the places from k on are over. -/
def bkw (l : List Vr) (k : Nat) : List (Nat × Vr) := ((List.range' k (l.length - k)).map fun i => (i, l.getD i v0)).reverse
theorem bkw_all (l : List Vr) : bkw l l.length = [] := by simp [bkw]
theorem bkw_step (l : List Vr) (k : Nat) (x : Vr) (h : l[k]? = some x) : bkw l k = bkw l (k + 1) ++ [(k, x)] := by
  have hk := (List.getElem?_eq_some_iff.1 h).1
  have e : l.length - k = (l.length - (k + 1)) + 1 := by omega
  simp only [bkw, e, List.range'_succ, List.map_cons, List.reverse_cons]
  congr 2
  simp [h]
theorem bkw_len (l : List Vr) (k : Nat) (h : k ≤ l.length) : (bkw l k).length = l.length - k := by simp [bkw]

set_option maxRecDepth 100000 in
set_option maxHeartbeats 2000000 in
theorem back1_in (F : Fence) (n : Nat) (h7 : F.fn 49) (hro : F.round = none) (hn : 1 ≤ n) (u Bs n₀ : Nat) (a : Option Addr) (cap : Nat) (l : List Vr) (J Jx : List (Nat × Vr) → World → Prop)
    (hY : ∀ pre x W, J pre W → pre.length < l.length → YieldAt F (n - 1) Try.prog u #[.int .i64 (x.1 : Int), vrV x.2] W fun e W' =>
      (e = .returned (.bool true) ∧ J (pre ++ [x]) W' ∧ Below n₀ W W') ∨ (e = .returned (.bool false) ∧ Jx (pre ++ [x]) W'))
    (W : World) (hBs : W.cell? ⟨Bs, 0, none⟩ = some (.slice a l.length cap)) (hB0 : Bs < n₀) (hc : ∀ W', Below n₀ W W' → Lv W' (.slice a l.length cap) l) (h0 : J [] W) :
    CallsIn F n Try.prog 49 #[.func (.yield u) #[] #[], .pointer (some ⟨Bs, 0, none⟩)] W fun e W' => (∃ v, e = .returned v) ∧
      ((∃ ys, ys = bkw l 0 ∧ J ys W') ∨ (∃ pre, (∃ k, k ≤ l.length ∧ pre = bkw l k) ∧ Jx pre W')) := by
  have H := hid hc
  obtain ⟨_, _, _, _, hlen⟩ := hc W (Below.refl _ _)
  clear hc
  refine callsIn_of_wp Try.func49 rfl h7 ?_ hro
  simp only [Try.ntmps49, List.size_toArray, List.length_cons, List.length_nil, Nat.reduceAdd, Nat.reduceSub, Array.replicate_succ, Array.replicate_zero, List.push_toArray, List.append_toArray, List.nil_append, List.cons_append]
  gi_wp2
  gi_loopw [3] (fun i wr => ∃ k : Nat, k ≤ l.length ∧ i = .int .i64 ((k : Int) - 1) ∧ J (bkw l k) wr ∧ Hid (Below n₀ W wr))
    (fun i _ => (intOf i + 1).toNat)
  case atStart => exact ⟨l.length, Nat.le_refl _, rfl, by rw [bkw_all]; exact h0, Below.refl _ _⟩
  case round =>
    obtain ⟨k, hk, rfl, hJs, hnx⟩ := hrel
    have hBs2 : wr.cell? ⟨Bs, 0, none⟩ = some (.slice a l.length cap) := (hnx.out.cell (p := ⟨Bs, 0, none⟩) hB0).trans hBs
    rcases Nat.eq_zero_or_pos k with rfl | hpos
    · gi_wp2
      go_end0
      exact ⟨⟨_, rfl⟩, .inl ⟨_, rfl, hJs⟩⟩
    · obtain ⟨k, rfl⟩ : ∃ m, k = m + 1 := ⟨k - 1, by omega⟩
      obtain ⟨x, hx⟩ : ∃ x, l[k]? = some x := ⟨_, List.getElem?_eq_getElem (by omega)⟩
      obtain ⟨fn, tmps, assign, body, hy, hR⟩ := hY _ (k, x) wr hJs (by rw [bkw_len l _ hk]; omega)
      dsimp only at hy
      obtain ⟨b, off, rfl, c0, c1, c2, c3, c4⟩ := (H.out wr hnx.out).at hx
      have hst := hid (bkw_step l k x hx)
      have hcast : (((k + 1 : Nat) : Int) - 1) = (k : Int) := by omega
      rw [hcast]
      have hi1 : (k : Int) < (l.length : Int) := by omega
      clear hx hBs hcast
      unfold vrV at hy
      gi_wp2
      refine hR.mono ?_
      rintro e W3 (⟨rfl, hJ3, hk3⟩ | ⟨rfl, hJx3⟩)
      · rw [← hst.out] at hJ3
        have hK3 := hid (hnx.out.trans hk3)
        clear hk3
        gi_wp2
        go_roundw
        case rel => exact ⟨k, by omega, rfl, hJ3, hK3⟩
        case measure => simp [intOf]
      · rw [← hst.out] at hJx3
        gi_wp2
        refine bodyPost_ret (results_none rfl _ _ _) rfl ?_
        exact ⟨⟨_, rfl⟩, .inr ⟨_, ⟨k, by omega, rfl⟩, hJx3⟩⟩

set_option maxHeartbeats 1000000 in
theorem backward_in (F : Fence) (n : Nat) (h5 : F.fn 47) (hro : F.round = none) (a : Option Addr) (len cap : Nat) (w : World) :
    CallsIn F n Try.prog 47 #[.slice a len cap] w fun e w' => e = .returned (.func (.func 49) #[] #[.pointer (some ⟨w.heap.size, 0, none⟩)]) ∧ w' = w.alloc (.cells #[.slice a len cap] 22) := by
  refine callsIn_of_wp Try.func47 rfl h5 ?_ hro
  simp only [Try.ntmps47, List.size_toArray, List.length_cons, List.length_nil, Nat.reduceAdd, Nat.reduceSub, Array.replicate_succ, Array.replicate_zero, List.push_toArray, List.append_toArray, List.nil_append, List.cons_append]
  gi_wp2
  go_ret
  exact ⟨rfl, rfl⟩

theorem back_stops (F : Fence) (n : Nat) (h7 : F.fn 49) (hro : F.round = none) (hn : 1 ≤ n) (Bs n₀ : Nat) (a : Option Addr) (cap : Nat) (l : List Vr) (w : World) (hBs : Bs < n₀) (hn₀ : n₀ ≤ w.heap.size)
    (hc : w.cell? ⟨Bs, 0, none⟩ = some (.slice a l.length cap)) (hl : ∀ W', Below n₀ w W' → Lv W' (.slice a l.length cap) l) :
    SeqStopsK F n Try.prog 49 #[.pointer (some ⟨Bs, 0, none⟩)] (fun x : Nat × Vr => #[Value.int .i64 (x.1 : Int), vrV x.2]) (Below n₀) (fun ys => ys = bkw l 0)
      (fun pre => ∃ k, k ≤ l.length ∧ pre = bkw l k) l.length w := fun u J Jx W hW _ _ hY h0 => by
  have hW' := hW.mono hn₀
  have hc' := (hW'.cell (p := ⟨Bs, 0, none⟩) hBs).trans hc
  exact back1_in F n h7 hro hn u Bs n₀ a cap l J Jx hY W hc' hBs (fun W' hB => hl W' (hW'.trans hB)) h0

end Go.Proofs.Ytmdomihpohekiaa
