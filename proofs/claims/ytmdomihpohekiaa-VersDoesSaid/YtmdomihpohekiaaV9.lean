/- turned, Logged, Acked. -/
import Derived.Test.YtmdomihpohekiaaV8
namespace Go.Proofs.Ytmdomihpohekiaa
set_option linter.unusedVariables false
set_option linter.unusedSimpArgs false
set_option linter.unusedSectionVars false
open Go.RowKit

/-- A function value that turns a version in place, from world w0 on. -/
def Turns (w0 : World) (k : Nat) (caps : Array Value) (f : Vr → Vr) : Prop :=
  (∀ args w, (callFunc k args).run Try.prog w = .ok (.enter k args) w) ∧
  ∀ W, Mod [] w0 W → ∀ (g cap : Nat) (ls : List Vr) (i : Nat) (x : Vr), w0.heap.size ≤ g → RowAt W g cap ls → ls[i]? = some x → Calls Try.prog k (#[.pointer (some ⟨g, i * 5, none⟩)] ++ caps) W fun e w' => e = .returned (.tuple #[]) ∧ RowAt w' g cap (ls.set i (f x)) ∧ Mod [g] W w'

theorem Turns.mod {w w' : World} {k : Nat} {caps : Array Value} {f : Vr → Vr} (h : Turns w k caps f) (hm : Mod [] w w') : Turns w' k caps f :=
  ⟨h.1, fun W hW g cap ls i x hg hR hx => h.2 W (hm.tr hW) g cap ls i x (by have := hm.size; omega) hR hx⟩

def turnedB (f : Vr → Vr) (l : List Vr) : List Vr := if mayB l then l.map f else l

set_option maxRecDepth 100000 in
set_option maxHeartbeats 1000000 in
theorem turned_c (w : World) (v : Value) (l : List Vr) (h : Lv w v l) (hl : l.length ≤ 1000000) (k : Nat) (caps : Array Value) (f : Vr → Vr) (hp : Turns w k caps f) :
    Calls Try.prog 40 #[v, .func (.func k) #[] caps] w (OwnSays w (turnedB f l)) := by
  have H := hid h
  have HP := hid hp
  obtain ⟨a, cap, rfl, _, _⟩ := h
  have enter := hp.1
  clear hp
  go_enter Try.func40, Try.ntmps40
  go_wp2_with fail
  refine (own_c _ _ l H.out hl).mono ?_
  rintro e w1 ⟨v1, L1, rfl, ho, hm, hf⟩
  have ho1 := hid ho
  have hm1 := hid hm
  have hf1 := hid hf
  obtain ⟨a1, cap1, rfl, hn1, hn2, hrow⟩ := ho.val
  clear ho hm hf
  go_wp2_with fail
  refine (may_c _ _ l (H.out.mod hm1.out)).mono ?_
  rintro e w2 ⟨rfl, hm⟩
  have ho2 := hid (ho1.out.mod hm (by simp))
  have hm2 := hid (hm1.out.tr hm)
  clear hm ho1 hm1
  cases hmay : mayB l
  · have hs : Hid (turnedB f l = l) := by show _ = _; simp [turnedB, hmay]
    clear hmay hrow
    go_wp2
    go_ret
    refine ⟨_, L1, rfl, ?_, hm2.out, hf1.out⟩
    rw [hs.out]
    exact ho2.out
  · have hs : Hid (turnedB f l = l.map f) := by show _ = _; simp [turnedB, hmay]
    clear hmay
    rcases Nat.eq_zero_or_pos l.length with h0 | hpos
    · obtain rfl := List.eq_nil_of_length_eq_zero h0
      clear hrow h0
      go_wp2
      go_loopg [15] 1 (fun g i wr => i = .int .i64 0 ∧ Hid (Own wr 25 5 (.slice a1 0 cap1) 0 (vsC []) L1) ∧ Hid (Mod [] w wr))
      · exact ⟨rfl, ho2, hm2⟩
      · obtain ⟨rfl, ho, hM⟩ := hrel
        go_wp2
        go_ret
        exact ⟨_, L1, rfl, by rw [hs.out]; exact ho.out, hM.out, hf1.out⟩
    · obtain ⟨g, rfl, rfl, _⟩ := hrow hpos
      have hR := hid (ho2.out.row).1
      have hgw : w.heap.size ≤ g := hf1.out g (by simp)
      clear hrow ho2
      go_wp2
      go_loopg [15] l.length (fun gg i wr => ∃ (j : Nat) (ls : List Vr), i = .int .i64 j ∧ j + gg = l.length ∧ Hid (ls = (l.take j).map f ++ l.drop j) ∧ Hid (RowAt wr g cap1 ls) ∧ Hid (Mod [] w wr))
      · exact ⟨0, l, rfl, by omega, (show _ = _ by simp), hR, hm2⟩
      · obtain ⟨j, ls, rfl, hj, hls, hR, hM⟩ := hrel
        clear hm2
        by_cases hlt : j < l.length
        · obtain ⟨x, hx⟩ : ∃ x, l[j]? = some x := ⟨_, List.getElem?_eq_getElem hlt⟩
          have hx2 : ls[j]? = some x := by
            rw [hls.out, List.getElem?_append_right (by simp; omega)]
            simp [Nat.min_eq_left (Nat.le_of_lt hlt), hx]
          have hnew : Hid (ls.set j (f x) = (l.take (j + 1)).map f ++ l.drop (j + 1)) := by
            show _ = _
            obtain ⟨hlt', rfl⟩ := List.getElem?_eq_some_iff.1 hx
            have hlen : ((l.take j).map f).length = j := by simp; omega
            rw [hls.out, List.set_append, if_neg (by omega), hlen, Nat.sub_self, ← List.getElem_cons_drop hlt', List.set_cons_zero, List.take_succ_eq_append_getElem hlt', List.map_append, List.append_assoc]
            rfl
          have hcall := hid (HP.out.2 _ hM.out g cap1 ls j x hgw hR.out hx2)
          have hil : j < cap1 := by omega
          clear hx hx2
          go_wp2_with fail
          refine hcall.out.mono ?_
          rintro e w3 ⟨rfl, hR3, hm⟩
          rw [hnew.out] at hR3
          have HR3 := hid hR3
          have HM3 := hid (hM.out.fresh hm (by simp; omega))
          clear hm hR3 hcall
          go_wp2
          go_roundg (gk - 1)
          case measure => omega
          case rel => exact ⟨j + 1, _, by go_num, by omega, (show _ = _ from rfl), HR3, HM3⟩
        · obtain rfl : j = l.length := by omega
          go_wp2
          go_ret
          have hls2 : ls = l.map f := by rw [hls.out]; simp
          have hlen : ls.length = (l.map f).length := by rw [hls2]
          refine ⟨_, [g], rfl, ?_, hM.out, by simp; omega⟩
          rw [hs.out, ← hls2]
          have := hR.out.own (n := ls.length) (Nat.le_refl _) (by rw [hlen]; simp; omega) hn2
          rw [List.take_length] at this
          rw [hlen] at this ⊢
          simpa using this

end Go.Proofs.Ytmdomihpohekiaa
