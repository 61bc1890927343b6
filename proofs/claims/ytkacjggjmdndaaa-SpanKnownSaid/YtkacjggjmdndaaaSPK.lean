/- The reference's ranges: before, has, Max. -/
import Derived.Test.YtkacjggjmdndaaaSPJ
import Derived.Test.YtkacjggjmdndaaaK9
namespace Go.Proofs.Ytkacjggjmdndaaa
set_option linter.unusedVariables false
set_option linter.unusedSimpArgs false
set_option linter.unusedSectionVars false
open Go.RowKit

/-- The reference's ranges. -/
def refR (b : Nat) (most : Int) (l : List Rg) : Res := fun w L => ∃ v M, Blk w b #[.int .i64 most, v] 37 ∧ Seg w 52 3 v l.length (flat rgC l) M ∧ b ∉ M ∧ L = b :: M
instance (b : Nat) (most : Int) (l : List Rg) : Keep (refR b most l) where
  lt := by
    rintro w L ⟨v, M, h1, h2, _, rfl⟩ k hk
    rcases List.mem_cons.1 hk with rfl | hk
    · exact h1.lt
    · exact h2.lt k hk
  mod := by
    rintro w w' L M ⟨v, N, h1, h2, h3, rfl⟩ hm hd
    exact ⟨v, N, hm.blk h1 (hd _ (by simp)), h2.mod hm (fun k hk => hd k (by simp [hk])), h3, rfl⟩

open Classical in
noncomputable def befB (a b : ByteArray) : Bool := decide (EL a b)

open Classical in
set_option maxRecDepth 100000 in
theorem before_c (a b : ByteArray) (w : World) : Calls Try.prog 19 #[.string a, .string b] w fun e w' => e = .returned (.bool (befB a b)) ∧ w = w' := by
  by_cases ha : a = mt
  · have f1 := (mt_iff a).1 ha
    have hc : befB a b = false := by unfold befB; rw [decide_eq_false_iff_not]; exact fun h => h.1 ha
    rw [hc]
    clear hc ha
    go_enter Try.func19, Try.ntmps19
    go_wp2
    go_ret
    exact ⟨rfl, rfl⟩
  · have f1 := nmt_list ha
    have f2 := nmt_emp ha
    by_cases hb : b = mt
    · have g1 := (mt_iff b).1 hb
      have hc : befB a b = true := by unfold befB; rw [decide_eq_true_iff]; exact ⟨ha, Or.inl hb⟩
      rw [hc]
      clear hc ha hb
      go_enter Try.func19, Try.ntmps19
      go_wp2
      go_ret
      exact ⟨rfl, rfl⟩
    · have g1 := nmt_list hb
      have g2 := nmt_emp hb
      by_cases hs : SL a b
      · have g3 := blS_yes hs
        have hc : befB a b = true := by unfold befB; rw [decide_eq_true_iff]; exact ⟨ha, Or.inr hs⟩
        rw [hc]
        clear hc ha hb hs
        go_enter Try.func19, Try.ntmps19
        go_wp2
        go_ret
        exact ⟨rfl, rfl⟩
      · have g3 := blS_no hs
        have hc : befB a b = false := by unfold befB; rw [decide_eq_false_iff_not]; exact fun h => h.2.elim hb hs
        rw [hc]
        clear hc ha hb hs
        go_enter Try.func19, Try.ntmps19
        go_wp2
        go_ret
        exact ⟨rfl, rfl⟩

open Classical in
noncomputable def hasB (x : Rg) (k : ByteArray) : Bool := decide (hasR x k)
open Classical in
set_option maxRecDepth 100000 in
theorem has_c (x : Rg) (k : ByteArray) (w : World) : Calls Try.prog 21 #[rgV x, .string k] w fun e w' => e = .returned (.bool (hasB x k)) ∧ Mod [] w w' := by
  by_cases h1 : SL k x.lo
  · have f1 := blS_yes h1
    have hc : hasB x k = false := by unfold hasB; rw [decide_eq_false_iff_not]; exact fun h => h.1 h1
    rw [hc]
    clear hc h1
    go_enter Try.func21, Try.ntmps21
    go_wp2
    go_ret
    exact ⟨rfl, (Mod.refl [] w).alloc _⟩
  · have f1 := blS_no h1
    by_cases hb : x.hi = mt
    · have g1 := (mt_iff x.hi).1 hb
      have hc : hasB x k = true := by unfold hasB; rw [decide_eq_true_iff]; exact ⟨h1, Or.inl hb⟩
      rw [hc]
      clear hc h1 hb
      go_enter Try.func21, Try.ntmps21
      go_wp2
      go_ret
      exact ⟨rfl, (Mod.refl [] w).alloc _⟩
    · have g1 := nmt_list hb
      have g2 := nmt_emp hb
      by_cases hs : SL k x.hi
      · have g3 := blS_yes hs
        have hc : hasB x k = true := by unfold hasB; rw [decide_eq_true_iff]; exact ⟨h1, Or.inr hs⟩
        rw [hc]
        clear hc h1 hb hs
        go_enter Try.func21, Try.ntmps21
        go_wp2
        go_ret
        exact ⟨rfl, (Mod.refl [] w).alloc _⟩
      · have g3 := blS_no hs
        have hc : hasB x k = false := by unfold hasB; rw [decide_eq_false_iff_not]; exact fun h => h.2.elim hb hs
        rw [hc]
        clear hc h1 hb hs
        go_enter Try.func21, Try.ntmps21
        go_wp2
        go_ret
        exact ⟨rfl, (Mod.refl [] w).alloc _⟩

open Classical in
theorem maxR_take {k : ByteArray} {l : List Rg} {i : Nat} {x : Rg} (hx : l[i]? = some x) : maxR k (l.take (i + 1)) = if hasB x k then max (maxR k (l.take i)) x.ts else maxR k (l.take i) := by
  rw [List.take_add_one, hx]
  have := maxR_snoc k x (l.take i)
  simp only [Option.toList_some]
  rw [this]
  unfold hasB
  by_cases h : hasR x k <;> simp [h]

set_option maxRecDepth 100000 in
set_option maxHeartbeats 4000000 in
theorem rmax_c (w : World) (b : Nat) (most : Int) (l : List Rg) (key : ByteArray) (L : List Nat) (h : refR b most l w L) (hl : l.length ≤ 1000) :
    Calls Try.prog 14 #[.pointer (some ⟨b, 0, none⟩), .string key] w fun e w' => e = .returned (.int .u64 (maxR key l)) ∧ Mod [] w w' := by
  obtain ⟨v, M, hb, ho, hbM, rfl⟩ := h
  have HL := hid (ho.lx rg_lays (by omega))
  obtain ⟨a, cap, rfl, _, _, _⟩ := ho.val
  have HB := hid hb
  clear ho hb
  have hmt : Hid (maxR key l = maxR key (l.take l.length)) := by show _ = _; rw [List.take_length]
  obtain ⟨mx, hmx⟩ : ∃ mx, maxR key l = mx := ⟨_, rfl⟩
  rw [hmx] at hmt ⊢
  clear hmx
  go_enter Try.func14, Try.ntmps14
  go_wp2
  go_loopg [5, 6] l.length (fun g p q wr => ∃ k : Nat, p = .int .u64 (maxR key (l.take k)) ∧ q = .int .i64 k ∧ k + g = l.length ∧ Hid (Mod [] w wr))
  · exact ⟨0, rfl, rfl, by omega, Mod.refl _ _⟩
  · obtain ⟨k, rfl, rfl, hk, hM⟩ := hrel
    have hB := hM.out.blk HB.out (by simp)
    have b1 : wr.cell? ⟨b, 1, none⟩ = some (.slice a l.length cap) := hB.cell 1
    have hbl := hB.lt
    rcases Nat.lt_or_ge k l.length with hlt | hge
    · obtain ⟨x, hx⟩ : ∃ x, l[k]? = some x := ⟨_, List.getElem?_eq_getElem hlt⟩
      have hst := hid (maxR_take (k := key) hx)
      obtain ⟨b', off, rfl, hc⟩ := (HL.out.mod hM.out).at hx
      have c0 := hc 0 _ rfl
      have c1 := hc 1 _ rfl
      have c2 := hc 2 _ rfl
      simp only [Nat.add_zero] at c0
      have hki : (k : Int) < (l.length : Int) := by omega
      have Hx := hid hx
      have HBw := hid hB
      generalize hmk : maxR key (l.take k) = mk at *
      clear hx hc hB hmk
      go_wp2_with fail
      refine (has_c x key wr).mono ?_
      rintro e w2 ⟨rfl, hm⟩
      have hB2 := hm.blk HBw.out (by simp)
      have d1 : w2.cell? ⟨b, 1, none⟩ = some (.slice (some ⟨b', off, none⟩) l.length cap) := hB2.cell 1
      obtain ⟨b'', off', e2, hd⟩ := (HL.out.mod (hM.out.tr hm)).at Hx.out
      simp only [Option.some.injEq, Addr.mk.injEq, and_true] at e2
      obtain ⟨rfl, rfl⟩ := e2
      have d2 := hd 2 _ rfl
      have hM2 := hid (hM.out.tr hm)
      clear hd hB2 hm b1 c0 c1 c2 hM
      have hmxi : Hid ((max (mk : Int) (x.ts : Int)) = ((max mk x.ts : Nat) : Int)) := by show _ = _; omega
      cases hh : hasB x key
      · rw [hh] at hst
        go_wp2
        go_roundg (gk - 1)
        case measure => omega
        case rel => exact ⟨k + 1, by rw [hst.out]; rfl, by go_num, by omega, hM2⟩
      · rw [hh] at hst
        go_wp2
        go_roundg (gk - 1)
        case measure => omega
        case rel => exact ⟨k + 1, by rw [hst.out, hmxi.out]; rfl, by go_num, by omega, hM2⟩
    · obtain rfl : k = l.length := by omega
      clear hge
      go_wp2
      go_ret
      exact ⟨by rw [← hmt.out]; rfl, hM.out⟩

end Go.Proofs.Ytkacjggjmdndaaa
