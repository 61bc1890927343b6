/- of, same; the lists as things in memory. -/
import Derived.Test.YtmdomihpohekiaaVB
import Derived.Laws.StructEq
namespace Go.Proofs.Ytmdomihpohekiaa
set_option linter.unusedVariables false
set_option linter.unusedSimpArgs false
set_option linter.unusedSectionVars false
open Go.RowKit

/-- A list of the walk's own. -/
abbrev lst (v : Value) (l : List Vr) : Res := rowR 25 5 v l.length (vsC l)

section
variable {w0 w : World} {R : Res} [Keep R] {f : FuncId} {args : Array Value} {l : List Vr}
omit [Keep R] in
theorem Top.lv {v : Value} (h : Top w0 (star (lst v l) R) w) : Lv w v l := by
  obtain ⟨L, ho⟩ := h.res
  exact Own.lv ho
theorem Top.own (h : Top w0 R w) (hc : Calls Try.prog f args w (OwnSays w l)) :
    Calls Try.prog f args w fun e w' => ∃ a cap, e = .returned (.slice a l.length cap) ∧ Top w0 (star (lst (.slice a l.length cap) l) R) w' :=
  hc.mono fun e w' ⟨v, L, h1, h2, h3, h4⟩ => by
    obtain ⟨a, cap, rfl, _⟩ := h2.val
    exact ⟨a, cap, h1, Top.made h h2 h3 h4⟩
theorem Top.put {q : Int} (h : Top w0 R w) (hc : Calls Try.prog f args w (PutSays w l q)) :
    Calls Try.prog f args w fun e w' => ∃ a cap, e = .returned (.tuple #[.slice a l.length cap, .int .i64 q]) ∧ Top w0 (star (lst (.slice a l.length cap) l) R) w' :=
  hc.mono fun e w' ⟨v, L, h1, h2, h3, h4⟩ => by
    obtain ⟨a, cap, rfl, _⟩ := h2.val
    exact ⟨a, cap, h1, Top.made h h2 h3 h4⟩
theorem Top.seen {o : Option Vr} (h : Top w0 R w) (hc : Calls Try.prog f args w (SeenSays w o)) :
    Calls Try.prog f args w fun e w' => e = .returned (.tuple #[vrV (o.getD v0), .bool o.isSome]) ∧ Top w0 R w' := h.read hc
end

/-- The pairs' versions. -/
def ofB : List Nat → List Vr
  | a :: b :: r => ⟨a, b, false, ⟨#[]⟩, false⟩ :: ofB r
  | _ => []
theorem ofB_take : ∀ (k : Nat) (l : List Nat), 2 * k + 1 < l.length → ofB (l.take (2 * k + 2)) = ofB (l.take (2 * k)) ++ [⟨l.getD (2 * k) 0, l.getD (2 * k + 1) 0, false, ⟨#[]⟩, false⟩]
  | 0, a :: b :: r, _ => rfl
  | k + 1, a :: b :: r, h => by
    have ih := ofB_take k r (by simp at h; omega)
    show ofB ((a :: b :: r).take (2 * (k + 1) + 2)) = _
    rw [show 2 * (k + 1) + 2 = (2 * k + 2) + 1 + 1 by omega, show 2 * (k + 1) = 2 * k + 1 + 1 by omega, List.take_succ_cons, List.take_succ_cons, List.take_succ_cons, List.take_succ_cons]
    show _ :: ofB (r.take (2 * k + 2)) = _
    rw [ih]
    rfl
  | 0, [], h => by simp at h
  | 0, [a], h => by simp at h
  | k + 1, [], h => by simp at h
  | k + 1, [a], h => by simp at h
theorem ofB_odd : ∀ (k : Nat) (l : List Nat), ¬ 2 * k + 1 < l.length → 2 * k ≤ l.length → ofB (l.take (2 * k)) = ofB l
  | k, [], _, _ => by simp
  | 0, [a], _, _ => rfl
  | k + 1, [a], _, h => by simp at h; omega
  | 0, a :: b :: r, h, _ => by simp at h
  | k + 1, a :: b :: r, h1, h2 => by
    have ih := ofB_odd k r (by simp at h1; omega) (by simp at h2; omega)
    rw [show 2 * (k + 1) = 2 * k + 1 + 1 by omega, List.take_succ_cons, List.take_succ_cons]
    show _ :: ofB (r.take (2 * k)) = _
    rw [ih]
    rfl
theorem ofB_len : ∀ (k : Nat) (l : List Nat), 2 * k ≤ l.length → (ofB (l.take (2 * k))).length = k
  | 0, l, _ => by simp [ofB]
  | k + 1, [], h => by simp at h
  | k + 1, [a], h => by simp at h; omega
  | k + 1, a :: b :: r, h => by
    have ih := ofB_len k r (by simp at h; omega)
    rw [show 2 * (k + 1) = 2 * k + 1 + 1 by omega, List.take_succ_cons, List.take_succ_cons]
    show (_ :: ofB (r.take (2 * k))).length = _
    rw [List.length_cons, ih]

set_option maxRecDepth 100000 in
set_option maxHeartbeats 2000000 in
theorem of_c (w : World) (b : Nat) (l : List Nat) (n cap : Nat) (hn : l.length = n) (hl : n ≤ 1000) (h : ∀ i, i < n → w.cell? ⟨b, i, none⟩ = some (.int .u64 (l.getD i 0))) :
    Calls Try.prog 28 #[.slice (some ⟨b, 0, none⟩) n cap] w (OwnSays w (ofB l)) := by
  have H := hid h
  have Hn := hid hn
  clear h hn
  go_enter Try.func28, Try.ntmps28
  go_wp2
  go_loopg [3, 4] 1000 (fun g o i wr => ∃ (k m : Nat) (v : Value) (L : List Nat), o = v ∧ i = .int .i64 m ∧ k + g = 1000 ∧ m ≤ n ∧ Hid (m = 2 * k) ∧ Hid (Own wr 25 5 v k (vsC (ofB (l.take m))) L) ∧ Hid (Mod [] w wr) ∧ Hid (∀ x ∈ L, w.heap.size ≤ x))
  · exact ⟨0, 0, _, [], rfl, rfl, by omega, by omega, rfl, Own.nil _ _ _, Mod.refl _ _, hid (by simp)⟩
  · obtain ⟨k, m, v, L, rfl, rfl, hk, hkn, hmk, ho, hM, hF⟩ := hrel
    have ho2 := ho.out
    obtain ⟨a, cp, rfl, _⟩ := ho2.val
    clear ho2
    by_cases hlt : m + 1 < n
    · have hkb : k < 500 := by have := hmk.out; omega
      have c0 := hM.out.cellSome (H.out m (by omega)) (by simp)
      have c1 := hM.out.cellSome (H.out (m + 1) hlt) (by simp)
      have hS : Hid (∀ X, Mod [] w X → X.cell? ⟨b, m, none⟩ = some (.int .u64 (l.getD m 0)) ∧ X.cell? ⟨b, m + 1, none⟩ = some (.int .u64 (l.getD (m + 1) 0))) := fun X hX => ⟨hX.cellSome (H.out m (by omega)) (by simp), hX.cellSome (H.out (m + 1) hlt) (by simp)⟩
      have hst := ofB_take k l (by rw [Hn.out, ← hmk.out]; exact hlt)
      rw [← hmk.out] at hst
      generalize l.getD m 0 = x0 at *
      generalize l.getD (m + 1) 0 = x1 at *
      have Hst := hid hst
      clear hst
      have hlt2 : (m : Int) + 1 < (n : Int) := by omega
      have hlt3 : (m : Int) < (n : Int) := by omega
      have hlt4 : (0 : Int) ≤ (m : Int) + 1 := by omega
      have hw1 : IntKind.i64.wrap ((m : Int) + 1) = (m : Int) + 1 := IntWalk.i64_in _ ⟨by omega, by omega⟩
      have hi4 : ((m : Int) + 1).toNat = m + 1 := by omega
      have hone : ∀ u ∈ vsC [(⟨x0, x1, false, ⟨#[]⟩, false⟩ : Vr)], u.oneCell' = true := vsC_one _
      have hrd : Hid (∀ W : World, Rdl (W.alloc (.cells #[.int .u64 x0, .int .u64 x1, .bool false, .string ⟨#[]⟩, .bool false] 25)) 5 (.slice (some ⟨W.heap.size, 0, none⟩) 1 1) 1 (vsC [(⟨x0, x1, false, ⟨#[]⟩, false⟩ : Vr)])) := by
        intro W
        refine ⟨rfl, Or.inr ⟨_, 0, 1, rfl, fun j hj => ?_⟩⟩
        rw [Nat.zero_add, (Blk.new W _ _).cell, ← Array.getElem?_toList]
        rfl
      go_upto_region 5 with (fail)
      go_region_held3 (fun X => X.cell? ⟨b, m, none⟩ = some (.int .u64 x0) ∧ X.cell? ⟨b, m + 1, none⟩ = some (.int .u64 x1))
        (first
          | exact hS.out _ hM.out.drew
          | exact hS.out _ (hM.out.alloc _).drew
          | assumption
          | exact hS.out _ hm5.out
          | fail)
        (first
          | (refine step_append_rdl rfl (.tmp 12) (.tmp 23) 22 25 rfl Try.underlying22 elem_ver rfl (by decide) rfl (ho.out.mod ((Mod.refl [] wr).alloc _).drew (by simp)) rfl (hrd.out wr) hone (by omega) (by omega) ?_; intro v5 w5 L5 g1 g2 g3; have G1 := hid g1.out; have hm5 : Hid (Mod [] w w5) := (hM.out.alloc _).drew.fresh g2.out hF.out; have hf5 : Hid (∀ k ∈ L5, w.heap.size ≤ k) := fun k hk => (g3.out k hk).elim (hF.out k) (Nat.le_trans (hM.out.alloc _).drew.size); clear g1 g2 g3)
          | fail)
      obtain ⟨a5, cp5, hv5, _⟩ := G1.out.val
      subst hv5
      clear hw1 hi4 hS hrd hone
      go_wp2
      go_roundg (gk - 1)
      case measure => omega
      case rel =>
        refine ⟨k + 1, m + 2, _, L5, rfl, by go_num, by omega, by omega, ?_, ?_, hm5, hf5⟩
        · show _ = _
          have := hmk.out; omega
        · show Own _ _ _ _ _ _ _
          rw [Hst.out, vsC_append]
          exact G1.out
    · go_wp2
      go_ret
      have hm1 := hmk.out
      have e := ofB_odd k l (by rw [Hn.out, ← hm1]; omega) (by rw [Hn.out, ← hm1]; omega)
      have e2 := ofB_len k l (by rw [Hn.out, ← hm1]; omega)
      rw [← hm1] at e e2
      rw [e] at e2
      refine ⟨_, L, rfl, ?_, hM.out, hF.out⟩
      rw [e2, ← e]
      exact ho.out

theorem eq_ver (a b a' b' : Int) (c d c' d' : Bool) (s s' : ByteArray) (w : World) : (Op.equalIn 10000 25 (.agg #[.int .u64 a, .int .u64 b, .bool c, .string s, .bool d]) (.agg #[.int .u64 a', .int .u64 b', .bool c', .string s', .bool d'])).run Try.prog w = .ok (a == a' && b == b' && c == c' && s.toList == s'.toList && d == d') w := by
  have u3 := Try.underlying23
  have u4 := Try.underlying4
  have u9 := Try.underlying9
  have hS : Try.prog.underlying 25 = some (.struct (Try.prog.fieldsOf 25)) := by kernel_rfl
  have hp : Try.prog.stoodInHeld 25 = false := by kernel_rfl
  rw [show (10000 : Nat) = 9999 + 1 from rfl, run_equalIn_agg w 9999 25 _ _ hS hp]
  simp only [Program.fieldsOf, Try.underlying25]
  go_simp
  cases h1 : (a == a') <;> cases h2 : (b == b') <;> cases h3 : (c == c') <;> cases h4 : (s.toList == s'.toList) <;> cases h5 : (d == d') <;> simp_all

def eqV (x y : Vr) : Bool := (x.ts : Int) == (y.ts : Int) && (x.ln : Int) == (y.ln : Int) && x.dl == y.dl && x.vl.toList == y.vl.toList && x.ak == y.ak
theorem eq_vr (x y : Vr) (w : World) : (Op.equalIn 10000 25 (.agg #[.int .u64 x.ts, .int .u64 x.ln, .bool x.dl, .string x.vl, .bool x.ak]) (.agg #[.int .u64 y.ts, .int .u64 y.ln, .bool y.dl, .string y.vl, .bool y.ak])).run Try.prog w = .ok (eqV x y) w := eq_ver _ _ _ _ _ _ _ _ _ _ w
theorem eqV_iff (x y : Vr) : eqV x y = true ↔ x = y := by
  unfold eqV
  simp only [Bool.and_eq_true, beq_iff_eq]
  constructor
  · rintro ⟨⟨⟨⟨h1, h2⟩, h3⟩, h4⟩, h5⟩
    cases x; cases y
    simp only [ByteArray.toList_eq] at h4
    simp only [Vr.mk.injEq]
    exact ⟨Int.ofNat_inj.1 h1, Int.ofNat_inj.1 h2, h3, ByteArray.ext (Array.toList_inj.1 h4), h5⟩
  · rintro rfl
    simp
/-- Are two lists alike, as the program compares them? -/
def sameB (l m : List Vr) : Bool := l.length == m.length && (List.range l.length).all fun i => eqV (l.getD i v0) (m.getD i v0)

theorem sameB_iff (l m : List Vr) : sameB l m = true ↔ l = m := by
  simp only [sameB, Bool.and_eq_true, List.all_eq_true, List.mem_range, beq_iff_eq, eqV_iff]
  constructor
  · rintro ⟨h1, h2⟩
    apply List.ext_getElem h1
    intro i hi hi'
    have := h2 i hi
    simpa [hi, hi'] using this
  · rintro rfl
    exact ⟨rfl, fun i _ => rfl⟩

set_option maxRecDepth 100000 in
set_option maxHeartbeats 2000000 in
theorem same_c (w : World) (v u : Value) (l m : List Vr) (h : Lv w v l) (h' : Lv w u m) :
    Calls Try.prog 27 #[v, u] w fun e w' => e = .returned (.bool (sameB l m)) ∧ Mod [] w w' := by
  have H := hid h
  have H' := hid h'
  obtain ⟨a, cap, rfl, _, hl1⟩ := h
  obtain ⟨a', cap', rfl, _, hl2⟩ := h'
  by_cases hlen : l.length = m.length
  · have Hlen := hid hlen
    rw [← hlen] at H' ⊢
    clear hlen
    go_enter Try.func27, Try.ntmps27
    go_wp2
    go_loopg [5] l.length (fun g i wr => ∃ k : Nat, i = .int .i64 k ∧ k + g = l.length ∧ Hid (∀ j, j < k → eqV (l.getD j v0) (m.getD j v0) = true) ∧ Hid (Mod [] w wr))
    · exact ⟨0, rfl, by omega, hid (by intro j h; omega), Mod.refl _ _⟩
    · obtain ⟨k, rfl, hk, hA, hM⟩ := hrel
      by_cases hlt : k < l.length
      · obtain ⟨x, hx⟩ : ∃ x, l[k]? = some x := ⟨_, List.getElem?_eq_getElem hlt⟩
        obtain ⟨y, hy⟩ : ∃ y, m[k]? = some y := ⟨_, List.getElem?_eq_getElem (by rw [← Hlen.out]; exact hlt)⟩
        obtain ⟨b, off, rfl, c0, c1, c2, c3, c4⟩ := (H.out.mod hM.out).at hx
        obtain ⟨b', off', rfl, d0, d1, d2, d3, d4⟩ := (H'.out.mod hM.out).at hy
        have hgx := hid (show l.getD k v0 = x by simp [hx])
        have hgy := hid (show m.getD k v0 = y by simp [hy])
        have hk1 : (k : Int) < (l.length : Int) := by omega
        clear hx hy
        have heq := eq_vr x y
        cases hq : eqV x y
        · rw [hq] at heq
          have Hq := hid hq
          clear hq
          go_upto_region 6 with (fail)
          go_quiet (fail)
          rename_i nq _
          have hM2 := hid (hM.out.drewN nq)
          go_wp2
          go_ret
          refine ⟨ret_bool ?_, hM2.out⟩
          symm
          rw [Bool.eq_false_iff]
          intro hs
          simp only [sameB, Bool.and_eq_true, List.all_eq_true, List.mem_range] at hs
          have := hs.2 k hlt
          rw [hgx.out, hgy.out, Hq.out] at this
          cases this
        · rw [hq] at heq
          have Hq := hid hq
          clear hq
          go_upto_region 6 with (fail)
          go_quiet (fail)
          rename_i nq _
          have hM2 := hid (hM.out.drewN nq)
          go_wp2
          go_roundg (gk - 1)
          case measure => omega
          case rel => exact ⟨k + 1, by go_num, by omega, hid (by
            intro j hj
            rcases (by omega : j < k ∨ j = k) with h | rfl
            · exact hA.out j h
            · rw [hgx.out, hgy.out]; exact Hq.out), hM2⟩
      · go_wp2
        go_ret
        refine ⟨ret_bool ?_, hM.out⟩
        symm
        simp only [sameB, Bool.and_eq_true, List.all_eq_true, List.mem_range, beq_iff_eq]
        exact ⟨Hlen.out, fun i hi => hA.out i (by omega)⟩
  · go_enter Try.func27, Try.ntmps27
    go_wp2
    go_ret
    exact ⟨ret_bool (by simp [sameB, hlen]), Mod.refl _ _⟩

end Go.Proofs.Ytmdomihpohekiaa
