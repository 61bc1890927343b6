/- The times of a key's ranges, one by one. -/
import Derived.Test.YtkacjggjmdndaaaSPG
import Derived.RangeFuncNested
import Derived.RangeFuncBound
import Derived.RangeFuncCalls
import Derived.RangeFuncLeaves
import Derived.Shelf.Abstract
import Derived.OwnWalkIn
import Derived.TacticsInMore
import Derived.LoopNIn
import Derived.LoopIn
namespace Go.Proofs.Ytkacjggjmdndaaa
set_option linter.unusedVariables false
set_option linter.unusedSimpArgs false
set_option linter.unusedSectionVars false
open Go.RowKit Go.Shelf
attribute [local go_sem] Oper.semAt_some

open Classical in
noncomputable def gotR (k : ByteArray) (l : List Rg) (i : Nat) : List Nat := ((l.take i).filter (fun x => decide (hasR x k))).map Rg.ts
theorem gotR_zero (k : ByteArray) (l : List Rg) : gotR k l 0 = [] := by simp [gotR]
theorem gotR_yes {k : ByteArray} {l : List Rg} {i : Nat} {x : Rg} (hx : l[i]? = some x) (h : hasR x k) : gotR k l (i + 1) = gotR k l i ++ [x.ts] := by
  unfold gotR; rw [List.take_add_one, hx]; simp [h]
theorem gotR_no {k : ByteArray} {l : List Rg} {i : Nat} {x : Rg} (hx : l[i]? = some x) (h : ¬ hasR x k) : gotR k l (i + 1) = gotR k l i := by
  unfold gotR; rw [List.take_add_one, hx]; simp [h]
theorem gotR_len (k : ByteArray) (l : List Rg) (i : Nat) : (gotR k l i).length ≤ i := by
  unfold gotR
  rw [List.length_map]
  exact Nat.le_trans (List.length_filter_le _ _) (by simp; omega)
open Classical in
theorem gotR_max (k : ByteArray) (l : List Rg) : (gotR k l l.length).foldl max 0 = maxR k l := by
  have h : ∀ (l : List Rg) (m : Nat), (((l.filter (fun x => decide (hasR x k))).map Rg.ts)).foldl max m = max m (maxR k l) := by
    intro l
    induction l with
    | nil => intro m; simp [maxR]
    | cons x l ih =>
      intro m
      by_cases hx : hasR x k
      · simp [hx, maxR, ih]
      · simp [hx, maxR, ih]
  unfold gotR
  rw [List.take_length, h]; simp

/-- What the iterator reads. -/
def OfAt (b Bs Bk : Nat) (a : Option Addr) (cap : Nat) (l : List Rg) (key : ByteArray) (W : World) : Prop :=
  W.cell? ⟨Bs, 0, none⟩ = some (.pointer (some ⟨b, 0, none⟩)) ∧ W.cell? ⟨Bk, 0, none⟩ = some (.string key) ∧ W.cell? ⟨b, 1, none⟩ = some (.slice a l.length cap) ∧ Lx 3 rgC W (.slice a l.length cap) l

set_option maxRecDepth 100000 in
set_option maxHeartbeats 4000000 in
theorem of1_in (F : Fence) (n : Nat) (h7 : F.fn 26) (hro : F.round = none) (hn : 1 ≤ n) (u Bs Bk b : Nat) (a : Option Addr) (cap : Nat) (l : List Rg) (key : ByteArray) (Kp : World → World → Prop) (hKr : ∀ A, Kp A A) (hKt : ∀ {A B C}, Kp A B → Kp B C → Kp A C) (hKa : ∀ A o, Kp A (World.alloc A o)) (J Jx : List Nat → World → Prop)
    (hY : ∀ pre (x : Nat) W, J pre W → pre.length < l.length → YieldAt F (n - 1) Try.prog u #[.int .u64 (x : Int)] W fun e W' =>
      (e = .returned (.bool true) ∧ J (pre ++ [x]) W' ∧ Kp W W') ∨ (e = .returned (.bool false) ∧ Jx (pre ++ [x]) W'))
    (hJ : ∀ pre W o, J pre W → J pre (World.alloc W o))
    (W : World) (hf : ∀ W', Kp W W' → OfAt b Bs Bk a cap l key W') (h0 : J [] W) :
    CallsIn F n Try.prog 26 #[.func (.yield u) #[] #[], .pointer (some ⟨Bs, 0, none⟩), .pointer (some ⟨Bk, 0, none⟩)] W fun e W' => (∃ v, e = .returned v) ∧
      ((∃ ys, ys = gotR key l l.length ∧ J ys W') ∨ (∃ pre, (∃ k, k ≤ l.length ∧ pre = gotR key l k) ∧ Jx pre W')) := by
  have H := hid hf
  have HJ := hid hJ
  obtain ⟨hBs, hBk, hb, _, _, _, _, hlen⟩ := hf W (hKr _)
  clear hf hJ
  refine callsIn_of_wp Try.func26 rfl h7 ?_ hro
  simp only [Try.ntmps26, List.size_toArray, List.length_cons, List.length_nil, Nat.reduceAdd, Nat.reduceSub, Array.replicate_succ, Array.replicate_zero, List.push_toArray, List.append_toArray, List.nil_append, List.cons_append]
  gi_wp2
  gi_loopw [11] (fun i wr => ∃ k : Nat, k ≤ l.length ∧ i = .int .i64 k ∧ J (gotR key l k) wr ∧ Hid (Kp W wr))
    (fun i _ => l.length - (intOf i).toNat)
  case atStart => exact ⟨0, Nat.zero_le _, rfl, by rw [gotR_zero]; exact h0, hKr _⟩
  case round =>
    obtain ⟨k, hk, rfl, hJs, hnx⟩ := hrel
    obtain ⟨_, hBk2, _, hLx⟩ := H.out wr hnx.out
    have hBkl := lt_of_cell hBk2
    dsimp only at hBkl
    have HLx := hid hLx
    clear hLx
    rcases Nat.lt_or_ge k l.length with hlt | hge
    · obtain ⟨x, hx⟩ : ∃ x, l[k]? = some x := ⟨_, List.getElem?_eq_getElem hlt⟩
      obtain ⟨b', off, rfl, hcc⟩ := HLx.out.at hx
      have c0 := hcc 0 _ rfl
      have c1 := hcc 1 _ rfl
      have c2 := hcc 2 _ rfl
      simp only [Nat.add_zero] at c0
      have hi1 : (k : Int) < (l.length : Int) := by omega
      have Hx := hid hx
      clear hx hcc hBs hBk hb
      have hnx2 := hid (hKt hnx.out (hKa wr (.cells #[.string x.lo, .string x.hi, .int .u64 x.ts] 48)))
      have hJ2 := hid (HJ.out _ _ (.cells #[.string x.lo, .string x.hi, .int .u64 x.ts] 48) hJs)
      by_cases h1 : SL key x.lo
      · have f1 : Op.bytesLess x.lo.toList key.toList = false := blS_no (SL_asymm h1)
        have f2 : (x.lo.toList == key.toList) = false := eqS_no (fun e => by rw [e] at h1; exact SL_irrefl _ h1)
        have hno := hid (gotR_no (k := key) Hx.out (fun h => h.1 h1))
        clear h1
        gi_wp2
        refine ⟨by simp, ?_⟩
        gi_wp2
        go_roundw
        case rel => exact ⟨k + 1, by omega, by go_num, by rw [hno.out]; exact hJ2.out, hnx2⟩
        case measure => simp [intOf]; omega
      · have f12 : (Op.bytesLess x.lo.toList key.toList || x.lo.toList == key.toList) = true := by
          rcases SL_tri x.lo key with h | h | h
          · rw [blS_yes h]; rfl
          · rw [(eqS_iff _ _).2 h]; simp
          · exact absurd h h1
        by_cases h2 : x.hi = mt
        · have g1 := (mt_iff x.hi).1 h2
          have hyes := hid (gotR_yes (k := key) Hx.out ⟨h1, Or.inl h2⟩)
          clear h1 h2
          obtain ⟨fn, tmps, assign, body, hy, hR⟩ := hY _ x.ts _ hJ2.out (Nat.lt_of_le_of_lt (gotR_len key l k) hlt)
          clear hJ2
          gi_wp2
          refine hR.mono ?_
          rintro e W3 (⟨rfl, hJ3, hk3⟩ | ⟨rfl, hJx3⟩)
          · rw [← hyes.out] at hJ3
            have hK3 := hid (hKt hnx2.out hk3)
            clear hk3
            gi_wp2
            go_roundw
            case rel => exact ⟨k + 1, by omega, by go_num, hJ3, hK3⟩
            case measure => simp [intOf]; omega
          · rw [← hyes.out] at hJx3
            gi_wp2
            refine bodyPost_ret (results_none rfl _ _ _) rfl ?_
            exact ⟨⟨_, rfl⟩, .inr ⟨_, ⟨k + 1, by omega, rfl⟩, hJx3⟩⟩
        · have g1 := nmt_list h2
          have g2 := nmt_emp h2
          by_cases h3 : SL key x.hi
          · have g3 := blS_yes h3
            have hyes := hid (gotR_yes (k := key) Hx.out ⟨h1, Or.inr h3⟩)
            clear h1 h2 h3
            obtain ⟨fn, tmps, assign, body, hy, hR⟩ := hY _ x.ts _ hJ2.out (Nat.lt_of_le_of_lt (gotR_len key l k) hlt)
            clear hJ2
            gi_wp2
            refine hR.mono ?_
            rintro e W3 (⟨rfl, hJ3, hk3⟩ | ⟨rfl, hJx3⟩)
            · rw [← hyes.out] at hJ3
              have hK3 := hid (hKt hnx2.out hk3)
              clear hk3
              gi_wp2
              go_roundw
              case rel => exact ⟨k + 1, by omega, by go_num, hJ3, hK3⟩
              case measure => simp [intOf]; omega
            · rw [← hyes.out] at hJx3
              gi_wp2
              refine bodyPost_ret (results_none rfl _ _ _) rfl ?_
              exact ⟨⟨_, rfl⟩, .inr ⟨_, ⟨k + 1, by omega, rfl⟩, hJx3⟩⟩
          · have g3 := blS_no h3
            have hno := hid (gotR_no (k := key) Hx.out (fun h => h.2.elim h2 h3))
            clear h1 h2 h3
            gi_wp2
            refine ⟨by simp, ?_⟩
            gi_wp2
            go_roundw
            case rel => exact ⟨k + 1, by omega, by go_num, by rw [hno.out]; exact hJ2.out, hnx2⟩
            case measure => simp [intOf]; omega
    · obtain rfl : k = l.length := by omega
      gi_wp2
      go_end0
      exact ⟨⟨_, rfl⟩, .inl ⟨_, rfl, hJs⟩⟩

set_option maxHeartbeats 1000000 in
theorem of_in (F : Fence) (n : Nat) (h5 : F.fn 20) (hro : F.round = none) (b : Nat) (key : ByteArray) (w : World) :
    CallsIn F n Try.prog 20 #[.pointer (some ⟨b, 0, none⟩), .string key] w fun e w' => e = .returned (.func (.func 26) #[] #[.pointer (some ⟨w.heap.size, 0, none⟩), .pointer (some ⟨w.heap.size + 1, 0, none⟩)]) ∧ w' = (w.alloc (.cells #[.pointer (some ⟨b, 0, none⟩)] 24)).alloc (.cells #[.string key] 9) := by
  refine callsIn_of_wp Try.func20 rfl h5 ?_ hro
  simp only [Try.ntmps20, List.size_toArray, List.length_cons, List.length_nil, Nat.reduceAdd, Nat.reduceSub, Array.replicate_succ, Array.replicate_zero, List.push_toArray, List.append_toArray, List.nil_append, List.cons_append]
  gi_wp2
  go_ret
  exact ⟨rfl, rfl⟩

theorem of_stops (F : Fence) (n : Nat) (h7 : F.fn 26) (hro : F.round = none) (hn : 1 ≤ n) (Bs Bk b : Nat) (a : Option Addr) (cap : Nat) (l : List Rg) (key : ByteArray) (Kp : World → World → Prop) (hKr : ∀ A, Kp A A) (hKt : ∀ {A B C}, Kp A B → Kp B C → Kp A C) (hKa : ∀ A o, Kp A (World.alloc A o)) (w : World)
    (hKb : ∀ W, Below w.heap.size w W → Kp w W) (hf : ∀ W', Kp w W' → OfAt b Bs Bk a cap l key W') :
    SeqStopsK F n Try.prog 26 #[.pointer (some ⟨Bs, 0, none⟩), .pointer (some ⟨Bk, 0, none⟩)] (fun x : Nat => #[Value.int .u64 (x : Int)]) Kp (fun ys => ys = gotR key l l.length)
      (fun pre => ∃ k, k ≤ l.length ∧ pre = gotR key l k) l.length w := fun u J Jx W hW hA _ hY h0 =>
  of1_in F n h7 hro hn u Bs Bk b a cap l key Kp hKr hKt hKa J Jx hY (fun pre A o h => hA pre A (A.alloc o) none h (World.grownBy_alloc A o none) (by simp)) W (fun W' hK => hf W' (hKt (hKb W hW) hK)) h0

end Go.Proofs.Ytkacjggjmdndaaa
