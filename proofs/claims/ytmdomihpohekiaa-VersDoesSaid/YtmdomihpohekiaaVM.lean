/- The reference: May, Same, copied. -/
import Derived.Test.YtmdomihpohekiaaVJ
namespace Go.Proofs.Ytmdomihpohekiaa
set_option linter.unusedVariables false
set_option linter.unusedSimpArgs false
set_option linter.unusedSectionVars false
open Go.RowKit

set_option maxRecDepth 100000 in
set_option maxHeartbeats 1000000 in
theorem rmay_c (w : World) (v : Value) (l : List Vr) (h : Lv w v l) :
    Calls Try.prog 31 #[v] w fun e w' => e = .returned (.bool (mayB l)) ∧ Mod [] w w' := by
  have H := hid h
  obtain ⟨a, cap, rfl, _, hlen⟩ := h
  go_enter Try.func31, Try.ntmps31
  go_wp2
  go_loopg [3] (l.length + 1) (fun g i wr => ∃ k : Nat, i = .int .i64 k ∧ 1 ≤ k ∧ k + g = l.length + 2 ∧ Hid (∀ j, j + 1 < k → j + 1 < l.length → tsA l j < tsA l (j + 1)) ∧ Hid (Mod [] w wr))
  · exact ⟨1, rfl, by omega, by omega, hid (by intro j h; omega), Mod.refl _ _⟩
  · obtain ⟨k, rfl, h1, hk, hA, hM⟩ := hrel
    by_cases hlt : k < l.length
    · obtain ⟨k, rfl⟩ : ∃ m, k = m + 1 := ⟨k - 1, by omega⟩
      obtain ⟨x, hx⟩ : ∃ x, l[k]? = some x := ⟨_, List.getElem?_eq_getElem (by omega)⟩
      obtain ⟨y, hy⟩ : ∃ y, l[k + 1]? = some y := ⟨_, List.getElem?_eq_getElem hlt⟩
      obtain ⟨b, off, rfl, c0, _⟩ := (H.out.mod hM.out).at hx
      obtain ⟨b', off', e, d0, _⟩ := (H.out.mod hM.out).at hy
      simp only [Option.some.injEq, Addr.mk.injEq, and_true] at e
      obtain ⟨rfl, rfl⟩ := e
      have tx := tsA_at hx
      have ty := tsA_at hy
      have Tx := hid tx
      have Ty := hid ty
      clear hx hy tx ty
      have hw1 : IntKind.i64.wrap ((k : Int) + 1 - 1) = (k : Int) := by rw [IntWalk.i64_in _ ⟨by omega, by omega⟩]; omega
      have hi0 : (0 : Int) ≤ (k : Int) := by omega
      have hi1 : (k : Int) < (l.length : Int) := by omega
      have hi2 : (k : Int) + 1 < (l.length : Int) := by omega
      have hi3 : (0 : Int) ≤ (k : Int) + 1 := by omega
      have hi4 : ((k : Int) + 1).toNat = k + 1 := by omega
      have hM' := hid (hM.out.drewN 1)
      go_upto_region 4 with (fail)
      clear hM'
      by_cases hc : x.ts < y.ts
      · go_quiet (fail)
        rename_i nq _
        have hM2 := hid (hM.out.drewN nq)
        clear hw1 hi4
        go_wp2
        go_roundg (gk - 1)
        case measure => omega
        case rel => exact ⟨k + 1 + 1, by go_num, by omega, by omega, hid (by
          intro j hj hjl
          rcases (by omega : j = k ∨ j + 1 < k + 1) with rfl | h
          · rw [Tx.out, Ty.out]; exact hc
          · exact hA.out j h hjl), hM2⟩
      · have hc' : y.ts ≤ x.ts := by omega
        go_quiet (fail)
        rename_i nq _
        have hM2 := hid (hM.out.drewN nq)
        clear hw1 hi4
        go_wp2
        go_ret
        exact ⟨ret_bool (mayB_no l k (by omega) (by rw [Tx.out, Ty.out]; exact hc')).symm, hM2.out⟩
    · go_wp2
      go_ret
      refine ⟨ret_bool ((mayB_iff l).2 fun i hi => hA.out i (by omega) hi).symm, hM.out⟩

set_option maxRecDepth 100000 in
set_option maxHeartbeats 2000000 in
theorem rsame_c (w : World) (v u : Value) (l m : List Vr) (h : Lv w v l) (h' : Lv w u m) :
    Calls Try.prog 16 #[v, u] w fun e w' => e = .returned (.bool (sameB l m)) ∧ Mod [] w w' := by
  have H := hid h
  have H' := hid h'
  obtain ⟨a, cap, rfl, _, hl1⟩ := h
  obtain ⟨a', cap', rfl, _, hl2⟩ := h'
  by_cases hlen : l.length = m.length
  · have Hlen := hid hlen
    rw [← hlen] at H' ⊢
    clear hlen
    go_enter Try.func16, Try.ntmps16
    go_wp2
    go_loopg [5] l.length (fun g i wr => ∃ k : Nat, i = .int .i64 k ∧ k + g = l.length ∧ Hid (∀ j, j < k → eqV (l.getD j v0) (m.getD j v0) = true) ∧ Hid (Mod [] w wr))
    · exact ⟨0, rfl, by omega, hid (by intro j h; omega), Mod.refl _ _⟩
    · obtain ⟨k, rfl, hk, hA, hM⟩ := hrel
      by_cases hlt : k < l.length
      · obtain ⟨x, hx⟩ : ∃ x, l[k]? = some x := ⟨_, List.getElem?_eq_getElem hlt⟩
        obtain ⟨y, hy⟩ : ∃ y, m[k]? = some y := ⟨_, List.getElem?_eq_getElem (by rw [← Hlen.out]; exact hlt)⟩
        obtain ⟨b, off, rfl, c0, c1, c2, c3, c4⟩ := (H.out.mod hM.out).at hx
        obtain ⟨b', off', rfl, d0, d1, d2, d3, d4⟩ := (H'.out.mod hM.out).at hy
        have hgx := hid (show l.getD k v0 = x by simp [hx])
        have hgy := hid (show m.getD k v0 = y by simp [hy])
        have hk1 : (k : Int) < (l.length : Int) := by omega
        clear hx hy
        have heq := eq_vr x y
        cases hq : eqV x y
        · rw [hq] at heq
          have Hq := hid hq
          clear hq
          go_upto_region 6 with (fail)
          go_quiet (fail)
          rename_i nq _
          have hM2 := hid (hM.out.drewN nq)
          go_wp2
          go_ret
          refine ⟨ret_bool ?_, hM2.out⟩
          symm
          rw [Bool.eq_false_iff]
          intro hs
          simp only [sameB, Bool.and_eq_true, List.all_eq_true, List.mem_range] at hs
          have := hs.2 k hlt
          rw [hgx.out, hgy.out, Hq.out] at this
          cases this
        · rw [hq] at heq
          have Hq := hid hq
          clear hq
          go_upto_region 6 with (fail)
          go_quiet (fail)
          rename_i nq _
          have hM2 := hid (hM.out.drewN nq)
          go_wp2
          go_roundg (gk - 1)
          case measure => omega
          case rel => exact ⟨k + 1, by go_num, by omega, hid (by
            intro j hj
            rcases (by omega : j < k ∨ j = k) with h | rfl
            · exact hA.out j h
            · rw [hgx.out, hgy.out]; exact Hq.out), hM2⟩
      · go_wp2
        go_ret
        refine ⟨ret_bool ?_, hM.out⟩
        symm
        simp only [sameB, Bool.and_eq_true, List.all_eq_true, List.mem_range, beq_iff_eq]
        exact ⟨Hlen.out, fun i hi => hA.out i (by omega)⟩
  · go_enter Try.func16, Try.ntmps16
    go_wp2
    go_ret
    exact ⟨ret_bool (by simp [sameB, hlen]), Mod.refl _ _⟩


theorem Lv.rdl {w : World} {v : Value} {l : List Vr} (h : Lv w v l) (hl : 0 < l.length) : Rdl w 5 v l.length (vsC l) := by
  obtain ⟨a, cap, rfl, h1, h2⟩ := h
  rcases h1 with rfl | ⟨b, off, rfl, hc⟩
  · simp at hl
  · refine ⟨vsC_len l, Or.inr ⟨b, off, cap, rfl, fun i hi => ?_⟩⟩
    have hx : l[i / 5]? = some l[i / 5] := List.getElem?_eq_getElem (by omega)
    have e := vsC_at l (i / 5) _ hx (i % 5) (by omega)
    rw [show i / 5 * 5 + i % 5 = i by omega] at e
    have hj : (vrC l[i / 5])[i % 5]? = some ((vrC l[i / 5])[i % 5]'(by simp [vrC]; omega)) := List.getElem?_eq_getElem _
    have h := hc (i / 5) _ hx (i % 5) _ hj
    rw [e, hj, ← h]
    congr 2
    omega

section
variable {P : Program} {w : World}
/-- append of a list to nothing, in a list of operations. -/
theorem wpList_append_new {ops : Array Oper} {rest : List Oper} {o : Oper} {a : Act} {Q : Exit → Act → World → Prop} (hgd : o.guard = Option.none) (s x : Operand)
    (ho : o.op = .call { callee := .builtin .append, args := #[s, x], argTypes := #[22, 22] })
    (hs : a.eval s = .slice Option.none 0 0) {y : Value} (hy : a.eval x = y) {l : List Vr} (hx : Lv w y l) (hl : l.length ≤ 1000000)
    (h : ∀ v' w' L', Hid (Own w' 25 5 v' l.length (vsC l) L') → Hid (Mod [] w w') → Hid (∀ k ∈ L', w.heap.size ≤ k) → wpList Try.prog ops Q rest (a.put o.dst v') w') :
    wpList Try.prog ops Q (o :: rest) a w := by
  rcases Nat.eq_zero_or_pos l.length with h0 | h0
  · obtain ⟨ad, cap, rfl, _, _⟩ := hx
    have hnil := List.eq_nil_of_length_eq_zero h0
    subst hnil
    have hrun := run_append_none (P := Try.prog) (w := w) 22 o.type 25 Try.underlying22 (sz := 5) (by kernel_rfl) Option.none 0 0 (Nat.le_refl _) ad cap
    refine wpList_plain hgd fun K hK => ?_
    unfold Oper.wp
    simp [execOp, ho, resolve, invoke, builtin, hs, hy, hrun, Result.andThen]
    exact hK _ _ (h _ w [] (Own.nil w _ 5) (Mod.refl _ _) (by intro k hk; cases hk))
  · refine wpList_append_rdl hgd s x 22 25 ho Try.underlying22 elem_ver rfl (by decide) hs (Own.nil w 25 5) hy (hx.rdl h0) (vsC_one l) (by omega) (by omega) ?_
    intro v' w' L' h1 h2 h3
    refine h v' w' L' (show Own _ _ _ _ _ _ _ from ?_) h2 (fun k hk => (h3 k hk).elim (by simp) id)
    have h1' := h1.out
    simpa using h1'
end

set_option maxRecDepth 100000 in
set_option maxHeartbeats 1000000 in
theorem rcopied_c (w : World) (v : Value) (l : List Vr) (h : Lv w v l) (hl : l.length ≤ 1000000) :
    Calls Try.prog 38 #[v] w (OwnSays w l) := by
  have H := hid h
  obtain ⟨a, cap, rfl, _, hlen⟩ := h
  go_enter Try.func38, Try.ntmps38
  go_wp2_with (at_builtin; refine wpList_append_new rfl (.tmp 4) (.tmp 5) rfl rfl rfl H.out hl ?_; intro v1 w1 L1 h1 h2 h3)
  go_ret
  exact ⟨_, L1, rfl, h1.out, h2.out, h3.out⟩

end Go.Proofs.Ytmdomihpohekiaa
