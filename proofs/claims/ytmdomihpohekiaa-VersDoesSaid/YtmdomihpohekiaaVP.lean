/- The reference: Logged, Acked. -/
import Derived.Test.YtmdomihpohekiaaVO
namespace Go.Proofs.Ytmdomihpohekiaa
set_option linter.unusedVariables false
set_option linter.unusedSimpArgs false
set_option linter.unusedSectionVars false
open Go.RowKit

/-- The first k are turned. -/
def turnK (f : Vr → Vr) (l : List Vr) (k : Nat) : List Vr := if mayB l then (l.take k).map f ++ l.drop k else l
theorem turnK_zero (f : Vr → Vr) (l : List Vr) : turnK f l 0 = l := by simp [turnK]
theorem turnK_all (f : Vr → Vr) (l : List Vr) : turnK f l l.length = turnedB f l := by simp [turnK, turnedB]
theorem turnK_not (f : Vr → Vr) (l : List Vr) (k : Nat) (h : mayB l = false) : turnK f l k = turnedB f l := by simp [turnK, turnedB, h]
theorem turnK_len (f : Vr → Vr) (l : List Vr) (k : Nat) : (turnK f l k).length = l.length := by
  unfold turnK; split
  · simp; omega
  · rfl
theorem turnK_at (f : Vr → Vr) (l : List Vr) (k : Nat) (x : Vr) (hx : l[k]? = some x) : (turnK f l k)[k]? = some x := by
  have hk := (List.getElem?_eq_some_iff.1 hx).1
  unfold turnK; split
  · rw [List.getElem?_append_right (by simp; omega)]
    simp only [List.length_map, List.length_take, List.getElem?_drop]
    rw [show k + (k - min k l.length) = k by omega]; exact hx
  · exact hx
theorem turnK_step (f : Vr → Vr) (l : List Vr) (k : Nat) (x : Vr) (hx : l[k]? = some x) (h : mayB l = true) : turnK f l (k + 1) = (turnK f l k).set k (f x) := by
  have hk := (List.getElem?_eq_some_iff.1 hx).1
  have hd : l.drop k = x :: l.drop (k + 1) := by
    rw [List.drop_eq_getElem_cons hk]; congr 1
    obtain ⟨_, e⟩ := List.getElem?_eq_some_iff.1 hx
    exact e
  simp only [turnK, h, if_true]
  rw [List.set_append_right _ _ (by simp; omega), hd, List.take_add_one, hx]
  simp only [List.length_map, List.length_take, List.map_append, Option.toList, List.map_cons, List.map_nil, List.append_assoc]
  rw [show k - min k l.length = 0 by omega]
  simp

set_option maxRecDepth 100000 in
set_option maxHeartbeats 4000000 in
theorem rlogged_c (w : World) (v : Value) (l : List Vr) (t n : Nat) (h : Lv w v l) (hl : l.length ≤ 1000000) :
    Calls Try.prog 20 #[v, .int .u64 t, .int .u64 n] w (OwnSays w (turnedB (logF t n) l)) := by
  have H := hid h
  obtain ⟨a, cap, rfl, _, hlen⟩ := h
  obtain ⟨f, hf⟩ : ∃ f, f = logF t n := ⟨_, rfl⟩
  rw [← hf]
  have Hf := hid hf
  clear hf
  go_enter Try.func20, Try.ntmps20
  go_wp2_with fail
  refine (rcopied_c _ _ l H.out hl).mono ?_
  rintro e w1 ⟨v1, L1, rfl, ho, hm, hf⟩
  have HO := hid ho
  have HM := hid hm
  have HF := hid hf
  clear ho hm hf
  obtain ⟨a1, cp, hv1, hcap1, hcap2, hg⟩ := HO.out.val
  subst hv1
  rcases Nat.eq_zero_or_pos l.length with h0 | h0
  · have hnil : Hid (turnedB f l = l) := by
      have := List.eq_nil_of_length_eq_zero h0
      subst this
      show _ = _
      simp [turnedB]
    rw [h0]
    clear hg
    go_wp2
    go_loopg [8] 0 (fun g i wr => i = .int .i64 0 ∧ wr = w1)
    · exact ⟨rfl, rfl⟩
    · obtain ⟨rfl, rfl⟩ := hrel
      go_wp2
      go_ret
      refine ⟨_, L1, rfl, ?_, HM.out, HF.out⟩
      have := HO.out
      rw [hnil.out, h0]
      rw [h0] at this
      exact this
  · obtain ⟨g, rfl, rfl, _⟩ := hg h0
    obtain ⟨hR, _, _, hnc, _⟩ := HO.out.row
    have HR := hid hR
    have Hg : Hid (w.heap.size ≤ g) := HF.out g (by simp)
    have hgl := hR.lt
    clear hR h0
    go_wp2
    go_loopg [8] l.length (fun gg i wr => ∃ k : Nat, i = .int .i64 k ∧ k + gg = l.length ∧ Hid (RowAt wr g cp (turnK f l k)) ∧ Hid (Mod [] w wr))
    · exact ⟨0, rfl, by omega, by rw [turnK_zero]; exact HR.out, HM.out⟩
    · obtain ⟨k, rfl, hk, hR, hM⟩ := hrel
      by_cases hlt : k < l.length
      · obtain ⟨x, hx⟩ : ∃ x, l[k]? = some x := ⟨_, List.getElem?_eq_getElem hlt⟩
        have Hx := hid hx
        clear hx
        have hki : (k : Int) < (l.length : Int) := by omega
        go_wp2_with fail
        refine (rmay_c _ _ l (H.out.mod hM.out)).mono ?_
        rintro e w2 ⟨rfl, hm⟩
        have hM2 := hid (hM.out.tr hm)
        have hR2 := hid (hR.out.mod hm (by simp))
        obtain ⟨c0, c1, c2, c3, c4⟩ := hR2.out.five (turnK_at f l k x Hx.out)
        obtain ⟨f0, f1, f2, f3, f4⟩ := hR2.out.free5 k
        have hgl2 := hR2.out.lt
        clear hm hR hM
        cases hmay : mayB l
        · have hP := hid (turnK_not f l k hmay)
          clear hmay
          go_wp2
          go_ret
          refine ⟨_, [g], rfl, ?_, hM2.out, fun y hy => by simp at hy; subst hy; exact Hg.out⟩
          have hL : Hid ((turnedB f l).length = l.length) := by show _ = _; rw [← hP.out, turnK_len]
          have ho := hR2.out.own (n := l.length) (by rw [turnK_len]; omega) (by rw [turnK_len]; omega) (by omega)
          rw [List.take_of_length_le (by rw [turnK_len]; omega), hP.out] at ho
          rw [hL.out]
          exact ho
        · have hS := hid (turnK_step f l k x Hx.out hmay)
          clear hmay
          by_cases hts : x.ts = t
          · have hE : ((x.ts : Int) == (t : Int)) = true := by simp; omega
            have hF : Hid (f x = { x with ln := n }) := by show _ = _; rw [Hf.out]; simp [logF, hts]
            clear hts
            go_wp2
            go_roundg (gk - 1)
            case measure => omega
            case rel => exact ⟨k + 1, by go_num, by omega, hid (by rw [hS.out, hF.out]; exact hR2.out.set1 k x _ (turnK_at f l k x Hx.out)), hid (hM2.out.setCell (Or.inr Hg.out) _)⟩
          · have hE : ((x.ts : Int) == (t : Int)) = false := by simp; omega
            have hF : Hid (f x = x) := by show _ = _; rw [Hf.out]; simp [logF, hts]
            have hS2 : Hid (turnK f l (k + 1) = turnK f l k) := by show _ = _; rw [hS.out, hF.out, set_same _ _ _ (turnK_at f l k x Hx.out)]
            clear hts
            go_wp2
            go_roundg (gk - 1)
            case measure => omega
            case rel => exact ⟨k + 1, by go_num, by omega, hid (by rw [hS2.out]; exact hR2.out), hM2⟩

      · obtain rfl : k = l.length := by omega
        go_wp2
        go_ret
        refine ⟨_, [g], rfl, ?_, hM.out, fun y hy => by simp at hy; subst hy; exact Hg.out⟩
        have hL : Hid ((turnedB f l).length = l.length) := by show _ = _; rw [← turnK_all, turnK_len]
        have ho := hR.out.own (n := l.length) (by rw [turnK_len]; omega) (by rw [turnK_len]; omega) (by omega)
        rw [List.take_of_length_le (by rw [turnK_len]; omega), turnK_all] at ho
        rw [hL.out]
        exact ho

set_option maxRecDepth 100000 in
set_option maxHeartbeats 4000000 in
theorem racked_c (w : World) (v : Value) (l : List Vr) (n : Nat) (q : Bool) (h : Lv w v l) (hl : l.length ≤ 1000000) :
    Calls Try.prog 22 #[v, .int .u64 n, .bool q] w (OwnSays w (turnedB (ackF n q) l)) := by
  have H := hid h
  obtain ⟨a, cap, rfl, _, hlen⟩ := h
  obtain ⟨f, hf⟩ : ∃ f, f = ackF n q := ⟨_, rfl⟩
  rw [← hf]
  have Hf := hid hf
  clear hf
  go_enter Try.func22, Try.ntmps22
  go_wp2_with fail
  refine (rcopied_c _ _ l H.out hl).mono ?_
  rintro e w1 ⟨v1, L1, rfl, ho, hm, hf⟩
  have HO := hid ho
  have HM := hid hm
  have HF := hid hf
  clear ho hm hf
  obtain ⟨a1, cp, hv1, hcap1, hcap2, hg⟩ := HO.out.val
  subst hv1
  rcases Nat.eq_zero_or_pos l.length with h0 | h0
  · have hnil : Hid (turnedB f l = l) := by
      have := List.eq_nil_of_length_eq_zero h0
      subst this
      show _ = _
      simp [turnedB]
    rw [h0]
    clear hg
    go_wp2
    go_loopg [8] 0 (fun g i wr => i = .int .i64 0 ∧ wr = w1)
    · exact ⟨rfl, rfl⟩
    · obtain ⟨rfl, rfl⟩ := hrel
      go_wp2
      go_ret
      refine ⟨_, L1, rfl, ?_, HM.out, HF.out⟩
      have := HO.out
      rw [hnil.out, h0]
      rw [h0] at this
      exact this
  · obtain ⟨g, rfl, rfl, _⟩ := hg h0
    obtain ⟨hR, _, _, hnc, _⟩ := HO.out.row
    have HR := hid hR
    have Hg : Hid (w.heap.size ≤ g) := HF.out g (by simp)
    have hgl := hR.lt
    clear hR h0
    go_wp2
    go_loopg [8] l.length (fun gg i wr => ∃ k : Nat, i = .int .i64 k ∧ k + gg = l.length ∧ Hid (RowAt wr g cp (turnK f l k)) ∧ Hid (Mod [] w wr))
    · exact ⟨0, rfl, by omega, by rw [turnK_zero]; exact HR.out, HM.out⟩
    · obtain ⟨k, rfl, hk, hR, hM⟩ := hrel
      by_cases hlt : k < l.length
      · obtain ⟨x, hx⟩ : ∃ x, l[k]? = some x := ⟨_, List.getElem?_eq_getElem hlt⟩
        have Hx := hid hx
        clear hx
        have hki : (k : Int) < (l.length : Int) := by omega
        go_wp2_with fail
        refine (rmay_c _ _ l (H.out.mod hM.out)).mono ?_
        rintro e w2 ⟨rfl, hm⟩
        have hM2 := hid (hM.out.tr hm)
        have hR2 := hid (hR.out.mod hm (by simp))
        obtain ⟨c0, c1, c2, c3, c4⟩ := hR2.out.five (turnK_at f l k x Hx.out)
        obtain ⟨f0, f1, f2, f3, f4⟩ := hR2.out.free5 k
        have hgl2 := hR2.out.lt
        clear hm hR hM
        cases hmay : mayB l
        · have hP := hid (turnK_not f l k hmay)
          clear hmay
          go_wp2
          go_ret
          refine ⟨_, [g], rfl, ?_, hM2.out, fun y hy => by simp at hy; subst hy; exact Hg.out⟩
          have hL : Hid ((turnedB f l).length = l.length) := by show _ = _; rw [← hP.out, turnK_len]
          have ho := hR2.out.own (n := l.length) (by rw [turnK_len]; omega) (by rw [turnK_len]; omega) (by omega)
          rw [List.take_of_length_le (by rw [turnK_len]; omega), hP.out] at ho
          rw [hL.out]
          exact ho
        · have hS := hid (turnK_step f l k x Hx.out hmay)
          clear hmay
          rcases (by omega : x.ln = 0 ∨ (0 < x.ln ∧ n = 0) ∨ (0 < x.ln ∧ n ≠ 0 ∧ x.ln = n) ∨ (0 < x.ln ∧ n ≠ 0 ∧ x.ln ≠ n)) with h1 | ⟨h1, h2⟩ | ⟨h1, h2, h3⟩ | ⟨h1, h2, h3⟩
          · have hE : ¬ 0 < x.ln := by omega
            have hF : Hid (f x = x) := by show _ = _; rw [Hf.out]; simp [ackF, h1]
            have hS2 : Hid (turnK f l (k + 1) = turnK f l k) := by show _ = _; rw [hS.out, hF.out, set_same _ _ _ (turnK_at f l k x Hx.out)]
            clear h1
            go_wp2
            go_roundg (gk - 1)
            case measure => omega
            case rel => exact ⟨k + 1, by go_num, by omega, hid (by rw [hS2.out]; exact hR2.out), hM2⟩
          · have hE : ((n : Int) == 0) = true := by simp; omega
            have hF : Hid (f x = { x with ak := q }) := by show _ = _; rw [Hf.out]; simp [ackF, h1, h2]
            clear h2
            go_wp2
            go_roundg (gk - 1)
            case measure => omega
            case rel => exact ⟨k + 1, by go_num, by omega, hid (by rw [hS.out, hF.out]; exact hR2.out.set4 k x _ (turnK_at f l k x Hx.out)), hid (hM2.out.setCell (Or.inr Hg.out) _)⟩
          · have hE : ((n : Int) == 0) = false := by simp; omega
            have hE2 : ((x.ln : Int) == (n : Int)) = true := by simp; omega
            have hF : Hid (f x = { x with ak := q }) := by show _ = _; rw [Hf.out]; simp [ackF, h1, h2, h3]
            clear h2 h3
            go_wp2
            go_roundg (gk - 1)
            case measure => omega
            case rel => exact ⟨k + 1, by go_num, by omega, hid (by rw [hS.out, hF.out]; exact hR2.out.set4 k x _ (turnK_at f l k x Hx.out)), hid (hM2.out.setCell (Or.inr Hg.out) _)⟩
          · have hE : ((n : Int) == 0) = false := by simp; omega
            have hE2 : ((x.ln : Int) == (n : Int)) = false := by simp; omega
            have hF : Hid (f x = x) := by show _ = _; rw [Hf.out]; simp [ackF, h1, h2, h3]
            have hS2 : Hid (turnK f l (k + 1) = turnK f l k) := by show _ = _; rw [hS.out, hF.out, set_same _ _ _ (turnK_at f l k x Hx.out)]
            clear h2 h3
            go_wp2
            go_roundg (gk - 1)
            case measure => omega
            case rel => exact ⟨k + 1, by go_num, by omega, hid (by rw [hS2.out]; exact hR2.out), hM2⟩

      · obtain rfl : k = l.length := by omega
        go_wp2
        go_ret
        refine ⟨_, [g], rfl, ?_, hM.out, fun y hy => by simp at hy; subst hy; exact Hg.out⟩
        have hL : Hid ((turnedB f l).length = l.length) := by show _ = _; rw [← turnK_all, turnK_len]
        have ho := hR.out.own (n := l.length) (by rw [turnK_len]; omega) (by rw [turnK_len]; omega) (by omega)
        rw [List.take_of_length_le (by rw [turnK_len]; omega), turnK_all] at ho
        rw [hL.out]
        exact ho

end Go.Proofs.Ytmdomihpohekiaa
