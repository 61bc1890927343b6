/- DeleteFunc. -/
import Derived.Test.YtmdomihpohekiaaV6
namespace Go.Proofs.Ytmdomihpohekiaa
set_option linter.unusedVariables false
set_option linter.unusedSimpArgs false
set_option linter.unusedSectionVars false
open Go.RowKit

def keepB (p : Vr → Bool) (l : List Vr) : List Vr := l.filter fun x => !p x
/-- What a call that deletes in place leaves. -/
def DelSays (w : World) (L : List Nat) (l : List Vr) (e : Ending) (w' : World) : Prop :=
  ∃ v L', e = .returned v ∧ Own w' 25 5 v l.length (vsC l) L' ∧ Mod L w w' ∧ ∀ k ∈ L', k ∈ L

theorem keep_len (p : Vr → Bool) (l : List Vr) : (keepB p l).length ≤ l.length := List.length_filter_le _ _
theorem keep_step (p : Vr → Bool) (l : List Vr) (j : Nat) (x : Vr) (hx : l[j]? = some x) : keepB p (l.take (j + 1)) = keepB p (l.take j) ++ (if p x then [] else [x]) := by
  have e : l.take (j + 1) = l.take j ++ [x] := by rw [List.take_add_one, hx]; rfl
  unfold keepB
  rw [e, List.filter_append]
  cases hpx : p x <;> simp [hpx]
theorem keep_first (p : Vr → Bool) (l : List Vr) (i : Nat) (h : ∀ j y, j < i → l[j]? = some y → p y = false) : keepB p (l.take i) = l.take i := by
  unfold keepB
  rw [List.filter_eq_self]
  intro x hx
  obtain ⟨j, hj, rfl⟩ := List.getElem_of_mem hx
  have hj2 : j < i ∧ j < l.length := by rw [List.length_take] at hj; omega
  rw [h j _ hj2.1 (by rw [List.getElem_take]; exact List.getElem?_eq_getElem hj2.2)]
  rfl
theorem idx_cases (p : Vr → Bool) (l : List Vr) : (idxB p l = -1 ∧ keepB p l = l) ∨ ∃ (i : Nat) (x : Vr), idxB p l = i ∧ l[i]? = some x ∧ p x = true ∧ ∀ j y, j < i → l[j]? = some y → p y = false := by
  unfold idxB
  cases h : l.findIdx? p with
  | none =>
    left
    refine ⟨rfl, ?_⟩
    rw [List.findIdx?_eq_none_iff] at h
    unfold keepB
    rw [List.filter_eq_self]
    intro x hx
    rw [h x hx]; rfl
  | some i =>
    right
    rw [List.findIdx?_eq_some_iff_getElem] at h
    obtain ⟨hi, hp, hall⟩ := h
    refine ⟨i, l[i], rfl, List.getElem?_eq_getElem hi, hp, fun j y hj hy => ?_⟩
    obtain ⟨hj2, rfl⟩ := List.getElem?_eq_some_iff.1 hy
    have := hall j hj
    simpa using this

theorem zero_ver : ∀ w, (zeroValue 25).run Try.prog w = .ok (vrV v0) w := fun w => by kernel_rfl

set_option maxRecDepth 100000 in
set_option maxHeartbeats 2000000 in
theorem delete_c (w : World) (v : Value) (l : List Vr) (L : List Nat) (h : Own w 25 5 v l.length (vsC l) L) (k : Nat) (caps : Array Value) (p : Vr → Bool) (hp : ∀ W, Mod L w W → Asks W k caps p) :
    Calls Try.prog 46 #[v, .func (.func k) #[] caps] w (DelSays w L (keepB p l)) := by
  have H := hid h
  have HP := hid hp
  obtain ⟨a, cap, rfl, hn1, hn2, hrow⟩ := h.val
  have enter := (hp w (Mod.refl _ _)).1
  clear hp
  rcases idx_cases p l with ⟨hi, hk⟩ | ⟨i, x, hi, hx, hpx, hall⟩
  · have Hk := hid hk
    clear hk hrow
    go_enter Try.func46, Try.ntmps46
    go_wp2_with fail
    refine (index_c _ _ l h.lv k caps p (HP.out w (Mod.refl _ _))).mono ?_
    rintro e w2 ⟨rfl, hm⟩
    have hM := hid hm
    clear hm
    rw [hi]
    clear hi
    go_wp2
    go_ret
    refine ⟨_, L, rfl, ?_, hM.out.mono (by simp), fun _ h => h⟩
    rw [Hk.out]
    exact H.out.mod hM.out (by simp)
  · have hil := (List.getElem?_eq_some_iff.1 hx).1
    obtain ⟨g, rfl, rfl, _⟩ := hrow (by omega)
    obtain ⟨hR, _⟩ := h.row
    have HR := hid hR
    have hk0 : Hid (keepB p (l.take (i + 1)) = l.take i) := by
      show _ = _
      rw [keep_step p l i x hx, keep_first p l i hall, if_pos hpx]
      simp
    have hLv := hid h.lv
    clear hrow hR hall hpx hx h
    go_enter Try.func46, Try.ntmps46
    go_wp2_with fail
    refine (index_c _ _ l hLv.out k caps p (HP.out w (Mod.refl _ _))).mono ?_
    rintro e w2 ⟨rfl, hm⟩
    have hM := hid hm
    have HR2 := hid (HR.out.mod hm (by simp))
    clear hm
    rw [hi]
    clear hi
    go_wp2
    go_loopg [5, 6] l.length (fun gg si sj wr => ∃ (m j : Nat) (ls : List Vr), si = .int .i64 m ∧ sj = .int .i64 j ∧ j + gg = l.length + i + 1 ∧ j ≤ l.length ∧ m < j ∧ Hid (ls.length = l.length) ∧ Hid (ls.take m = keepB p (l.take j)) ∧ Hid (ls.drop j = l.drop j) ∧ Hid (RowAt wr g cap ls) ∧ Hid (Mod [g] w wr))
    · exact ⟨i, i + 1, l, rfl, by go_num, by omega, by omega, by omega, (show _ = _ from rfl), (show _ = _ from hk0.out.symm), (show _ = _ from rfl), HR2, hM.out.mono (by simp)⟩
    · clear HR2 hM hk0
      obtain ⟨m, j, ls, rfl, rfl, hj, hjl, hmj, hlen, htk, hdr, hR, hM⟩ := hrel
      have hgl := hR.out.lt
      by_cases hlt : j < l.length
      · obtain ⟨y, hy⟩ : ∃ y, l[j]? = some y := ⟨_, List.getElem?_eq_getElem hlt⟩
        have hy2 : ls[j]? = some y := by
          have h1 : (ls.drop j)[0]? = (l.drop j)[0]? := by rw [hdr.out]
          simpa [hy] using h1
        obtain ⟨c0, c1, c2, c3, c4⟩ := hR.out.five hy2
        have hst := hid (keep_step p l j y hy)
        have hb := hid (Blk.new wr #[.int .u64 y.ts, .int .u64 y.ln, .bool y.dl, .string y.vl, .bool y.ak] 25)
        have hM1 := hid (hM.out.alloc (.cells #[.int .u64 y.ts, .int .u64 y.ln, .bool y.dl, .string y.vl, .bool y.ak] 25))
        have hR1 := hid (hR.out.mod ((Mod.refl [] wr).alloc (.cells #[.int .u64 y.ts, .int .u64 y.ln, .bool y.dl, .string y.vl, .bool y.ak] 25)) (by simp))
        clear hy hy2 hM hR
        go_wp2_with fail
        refine ((HP.out _ hM1.out).2 _ (Mod.refl _ _) y).mono ?_
        rintro e w3 ⟨rfl, hm⟩
        obtain ⟨d0, d1, d2, d3, d4, _⟩ := (hm.blk hb.out (by simp)).five
        have hM3 := hid (hM1.out.tr (hm.mono (by simp)))
        have hR3 := hid (hR1.out.mod hm (by simp))
        have hbl := (hm.blk hb.out (by simp)).lt
        clear hm hb hM1 hR1 c0 c1 c2 c3 c4
        cases hpx : p y
        · have Hpx := hid hpx
          have hml : m < ls.length := by rw [hlen.out]; omega
          obtain ⟨z, hz⟩ : ∃ z, ls[m]? = some z := ⟨_, List.getElem?_eq_getElem hml⟩
          obtain ⟨e0, e1, e2, e3, e4⟩ := hR3.out.five hz
          obtain ⟨f0, f1, f2, f3, f4⟩ := hR3.out.free5 m
          have hml2 : m < l.length := by omega
          clear hpx hz
          go_wp2
          go_roundg (gk - 1)
          case measure => omega
          case rel =>
            refine ⟨m + 1, j + 1, ls.set m y, by go_num, by go_num, by omega, by omega, by omega, ?_, ?_, ?_, hR3.out.set m y hml, ?_⟩
            · show _ = _
              rw [List.length_set]; exact hlen.out
            · show _ = _
              rw [hst.out, if_neg (by rw [Hpx.out]; simp), ← htk.out, List.take_add_one, List.take_set_of_le (Nat.le_refl _), List.getElem?_set_self hml]
              rfl
            · show _ = _
              rw [List.drop_set_of_lt (by omega)]
              have h1 : (ls.drop j).drop 1 = (l.drop j).drop 1 := by rw [hdr.out]
              simpa using h1
            · exact ((((hM3.out.setCell (p := ⟨g, m * 5, none⟩) (by simp) _).setCell (p := ⟨g, m * 5 + 1, none⟩) (by simp) _).setCell (p := ⟨g, m * 5 + 2, none⟩) (by simp) _).setCell (p := ⟨g, m * 5 + 3, none⟩) (by simp) _).setCell (p := ⟨g, m * 5 + 4, none⟩) (by simp) _
        · have Hpx := hid hpx
          clear hpx
          go_wp2
          go_roundg (gk - 1)
          case measure => omega
          case rel =>
            refine ⟨m, j + 1, ls, rfl, by go_num, by omega, by omega, by omega, hlen, ?_, ?_, hR3, hM3⟩
            · show _ = _
              rw [hst.out, if_pos Hpx.out, ← htk.out]; simp
            · show _ = _
              have h1 : (ls.drop j).drop 1 = (l.drop j).drop 1 := by rw [hdr.out]
              simpa using h1
      · obtain rfl : j = l.length := by omega
        have hmc : m < cap := by omega
        have hi1 : (m : Int) ≤ (l.length : Int) := by omega
        have hi2 : (m : Int) ≤ (cap : Int) := by omega
        obtain ⟨cur, hb, hcs, hct⟩ := hR.out
        have hb2 := hid hb
        have hct2 := hid hct
        have hcs2 := hid hcs
        have hlen2 := hid hlen.out
        clear hb hct hcs
        have hone : ∀ v ∈ (vrV v0).cells.toList, v.oneCell' = true := by intro v hv; simp [vrV, v0, Value.cells] at hv; rcases hv with rfl | rfl | rfl | rfl | rfl <;> rfl
        go_wp2_with (refine wpList_clear_blk rfl (.tmp 38) 22 rfl 25 (vrV v0) Try.underlying22 zero_ver hone (some ⟨g, m * 5, none⟩) (l.length - m) (cap - m) rfl g (m * 5) cur 25 hb2.out (fun _ => ⟨rfl, by have h := hcs2.out; show m * 5 + (l.length - m) * 5 ≤ cur.size; omega⟩) ?_; intro w4 cur' g1 g2 g3 g4)
        go_ret
        have hkl : keepB p l = ls.take m := by
          have h := htk.out
          rw [List.take_length] at h
          exact h.symm
        have hml : m ≤ ls.length := by rw [hlen2.out]; omega
        refine ⟨_, [g], rfl, ?_, hM.out.trans g4.out (by simp) (by simp), fun _ h => h⟩
        rw [hkl, List.length_take, Nat.min_eq_left hml]
        refine ⟨by rw [vsC_len, List.length_take]; omega, Or.inr ⟨g, cap, cur', rfl, rfl, g1.out, by omega, by simpa [maxLen] using hn2, by rw [g2.out]; exact hcs2.out, ?_⟩⟩
        have e : vsC ls = vsC (ls.take m) ++ vsC (ls.drop m) := by rw [← vsC_append, List.take_append_drop]
        have e2 : cur'.toList.take (m * 5) = (cur.toList.take (ls.length * 5)).take (m * 5) := by
          apply List.ext_getElem?
          intro j
          rw [List.take_take, List.getElem?_take, List.getElem?_take]
          rcases Nat.lt_or_ge j (m * 5) with hj | hj
          · rw [if_pos hj, if_pos (by omega)]
            have := g3.out j hj
            simpa using this
          · rw [if_neg (by omega), if_neg (by omega)]
        rw [e2, hct2.out, e, List.take_append_of_le_length (by rw [vsC_len, List.length_take]; omega), List.take_of_length_le (by rw [vsC_len, List.length_take]; omega)]

end Go.Proofs.Ytmdomihpohekiaa
