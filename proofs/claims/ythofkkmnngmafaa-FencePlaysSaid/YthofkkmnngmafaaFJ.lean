/- mend in one; a leaf is removed: the walk. -/
import Derived.Test.YthofkkmnngmafaaFH
namespace Go.Proofs.Ythofkkmnngmafaa
set_option linter.unusedVariables false
set_option linter.unusedSimpArgs false
set_option linter.unusedSectionVars false
open Go.RowKit

theorem mend_c (d : Nat) (t : Tr (d + 2)) (b : Nat) (cs : List Ch) (w : World) (L : List Nat) (i : Nat) (h : star (ndR b cs t.2) (allR (trR (d + 1)) t.1 cs) w L) (h1 : 2 ≤ t.1.length) (h2 : t.1.length ≤ 5) (h3 : t.1.length = t.2.length + 1) (hi : i < t.1.length)
    (hF : ∀ j x, t.1[j]? = some x → (j = i → Fan1 d x) ∧ (j ≠ i → Fan (d + 1) x)) :
    Calls Try.prog 56 #[.pointer (some ⟨b, 0, none⟩), .int .i64 i] w (Gives w L (MendG d (mendT d t i) b)) := by
  obtain ⟨x, hx⟩ : ∃ x, t.1[i]? = some x := ⟨_, List.getElem?_eq_getElem hi⟩
  have hxF := (hF i x hx).1 rfl
  by_cases hge : 2 ≤ x.1.length
  · have e : mendT d t i = t := by
      unfold mendT
      rw [hx]
      dsimp only
      rw [if_pos hge]
    rw [e]
    exact mend_no d t b cs w L i x h hx (by omega) hge (by have := hxF.2.1; omega)
  · have hx1 : x.1.length = 1 := by have := hxF.1; omega
    have hk : i - 1 + 1 < t.1.length := by omega
    obtain ⟨A, a, y, B, SA, sa, sb, SB, hc⟩ := cut2_at (s := mt) h3 hk
    have la := hc.la
    have lsa := hc.lsa
    have ha : t.1[i - 1]? = some a := by rw [hc.ks, List.getElem?_append_right (by omega), la]; simp
    have hb : t.1[i - 1 + 1]? = some y := by rw [hc.ks, List.getElem?_append_right (by omega), la]; simp
    obtain ⟨hsb, _⟩ := begin_at hc.ss
    rw [lsa] at hsb
    have ha1 : Fan1 d a := by
      have := hF _ _ ha
      by_cases e : i - 1 = i
      · exact this.1 e
      · exact (this.2 e).one
    have hb1 : Fan1 d y := by
      have := hF _ _ hb
      by_cases e : i - 1 + 1 = i
      · exact this.1 e
      · exact (this.2 e).one
    have hsum : 3 ≤ a.1.length + y.1.length ∧ a.1.length + y.1.length ≤ 6 := by
      rcases Nat.eq_zero_or_pos i with h0 | h0
      · have e1 : i - 1 = i := by omega
        have e2 : a = x := by rw [e1, hx] at ha; exact (Option.some.inj ha).symm
        have hb2 := (hF _ _ hb).2 (by omega)
        have h5 := hb2.1
        have h6 := hb2.2.1
        rw [e2, hx1]; omega
      · have e1 : i - 1 + 1 = i := by omega
        have e2 : y = x := by rw [e1, hx] at hb; exact (Option.some.inj hb).symm
        have ha2 := (hF _ _ ha).2 (by omega)
        have h5 := ha2.1
        have h6 := ha2.2.1
        rw [e2, hx1]; omega
    obtain ⟨L1, L2, g1, g2, g3, g4⟩ := h
    have hcl := allR_len g2
    have hlen := congrArg List.length hc.ks
    simp only [List.length_append, List.length_cons] at hlen
    obtain ⟨CA, ca, cb, CB, ec, eCA⟩ : ∃ CA ca cb CB, cs = CA ++ ca :: cb :: CB ∧ CA.length = i - 1 := by
      have q1 : i - 1 < cs.length := by omega
      have q2 : i - 1 + 1 < cs.length := by omega
      refine ⟨cs.take (i - 1), cs[i - 1], cs[i - 1 + 1], cs.drop (i - 1 + 1 + 1), ?_, by simp; omega⟩
      rw [← List.drop_eq_getElem_cons q2, ← List.drop_eq_getElem_cons q1, List.take_append_drop]
    exact mend_two d t b cs w L i (i - 1) rfl x a y A B CA CB ca cb sb ⟨L1, L2, g1, g2, g3, g4⟩ hx h2 (by omega) hc.ks ec la eCA hsb h3 ha1 hb1 hsum

theorem cutz_c (w : World) (b : Nat) (cs : List Ch) (ss : List ByteArray) (i j : Nat) (z y : Int) (hz : z = (i : Int)) (hy : y = (j : Int)) (s : ByteArray) (L : List Nat) (h : ndR b cs ss w L) (hi : i < cs.length) (hj : ss[j]? = some s) (h1 : cs.length ≤ 1000) (h2 : ss.length ≤ 1000) :
    Calls Try.prog 57 #[.pointer (some ⟨b, 0, none⟩), .int .i64 z, .int .i64 y] w (Gives w L fun r w' L' => r = .string s ∧ ndR b (cs.eraseIdx i) (ss.eraseIdx j) w' L') := by
  subst hz; subst hy; exact cut_c w b cs ss i j s L h hi hj h1 h2

instance (p : Tr 0) (c : Ch) : Keep (trR 0 p c) := trR_keep 0 p c
instance (ts : List (Tr 0)) (cs : List Ch) : Keep (allR (trR 0) ts cs) := allR_keep (trR 0) (trR_keep 0) ts cs
theorem split_at {α : Type} {l : List α} {i : Nat} {x : α} (h : l[i]? = some x) : l = l.take i ++ x :: l.drop (i + 1) ∧ (l.take i).length = i := by
  obtain ⟨hi, e⟩ := List.getElem?_eq_some_iff.1 h
  exact ⟨by rw [← e, ← List.drop_eq_getElem_cons hi, List.take_append_drop], by simp; omega⟩

set_option maxRecDepth 100000 in
set_option maxHeartbeats 2000000 in
theorem rem0_c (t : Tr 1) (b : Nat) (cs : List Ch) (w : World) (L : List Nat) (s sep : ByteArray) (h : star (ndR b cs t.2) (allR (trR 0) t.1 cs) w L) (hF : Fan 1 t) (hs : SrtL (lv 1 t s)) :
    Calls Try.prog 31 #[.pointer (some ⟨b, 0, none⟩), .string sep] w (Gives w L fun r w' L' => r = .string (remT 0 t sep).2 ∧ trR 1 (remT 0 t sep).1 (.nd b) w' L') := by
  have hF1 := hF
  obtain ⟨h1, h2, h3, _⟩ := hF1
  have HH := (Hld.start h).ent ((ent_emp2 _).under _)
  obtain ⟨L0, hall⟩ := HH.drop.res
  have hcl := allR_len hall
  obtain ⟨i, hi⟩ : ∃ i, i = atI t.2 sep := ⟨_, rfl⟩
  have hil : i < t.1.length := by have := atI_le t.2 sep; omega
  obtain ⟨x, hx⟩ : ∃ x, t.1[i]? = some x := ⟨_, List.getElem?_eq_getElem hil⟩
  obtain ⟨ci, hci⟩ : ∃ ci, cs[i]? = some ci := ⟨_, List.getElem?_eq_getElem (by omega)⟩
  obtain ⟨e1, e1l⟩ := split_at hx
  obtain ⟨e2, e2l⟩ := split_at hci
  obtain ⟨hcx, HO⟩ := (HH.out_kid e1 e2 (by rw [e1l, e2l])).fact
  have ek : t.1.take i ++ t.1.drop (i + 1) = t.1.eraseIdx i := by rw [List.eraseIdx_eq_take_drop_succ]
  have ec : cs.take i ++ cs.drop (i + 1) = cs.eraseIdx i := by rw [List.eraseIdx_eq_take_drop_succ]
  have HO1 := HO.drop
  rw [ek, ec] at HO1
  have HO2 := hid HO1.swap
  obtain ⟨L1, hL1⟩ := HH.res
  obtain ⟨g, cap, b0, b0i⟩ := hL1.kid hci
  have hbl := hL1.lt
  have hat := at_c w b cs t.2 sep L1 hL1 (seps_srt hF.one hs) (by omega)
  rw [← hi] at hat
  have Hat := hid hat
  rw [hcx] at b0i
  replace b0i : w.cell? ⟨g, i, none⟩ = some (.iface 58 (.int .u64 (x : Nat))) := b0i
  have hi1 : (i : Int) < (cs.length : Int) := by omega
  have hi0 : (0 : Int) ≤ (i : Int) := by omega
  have hts : 0 < t.2.length := by omega
  have hcs5 : cs.length ≤ 5 := by omega
  have hts5 : t.2.length ≤ 5 := by omega
  have Hcl := hid (And.intro hcl (And.intro hi h3))
  have q1 := ta_nl
  clear h hF hs HH hall hcl hx hci e1 e1l e2 e2l hcx HO HO1 ek ec hL1 hat hi h3 hil
  go_enter Try.func31, Try.ntmps31
  go_wp2_with fail
  refine Hat.out.mono ?_
  rintro e w1 ⟨rfl, hm1⟩
  have HO3 := hid (HO2.out.mod hm1)
  replace b0 := hm1.cellSome b0 (by simp)
  replace b0i := hm1.cellSome b0i (by simp)
  have hbl1 : b < w1.heap.size := by have := hm1.size; omega
  clear hm1 HO2 Hat hbl
  rcases Nat.eq_zero_or_pos i with hz | hz
  · subst hz
    have hc0 : 0 < cs.length := by omega
    obtain ⟨s0, hs0⟩ : ∃ s0, t.2[0]? = some s0 := ⟨_, List.getElem?_eq_getElem hts⟩
    have HR : Hid (remT 0 t sep = ((t.1.eraseIdx 0, t.2.eraseIdx 0), s0)) := by
      show _ = _
      unfold remT
      rw [← Hcl.out.2.1, if_neg (by omega), List.getD_eq_getElem?_getD, hs0]; rfl
    go_wp2_with fail
    refine (HO3.out.call (fun L hL => cutz_c w1 b cs t.2 0 0 _ _ rfl rfl s0 L hL hc0 hs0 (by omega) (by omega))).mono ?_
    rintro e w2 ⟨r, rfl, HC⟩
    obtain ⟨rfl, HD⟩ := HC.fact
    have HD := hid HD
    clear HC b0 b0i
    go_wp2
    go_ret
    refine ⟨_, rfl, ?_⟩
    rw [HR.out]
    refine Hld.also rfl ?_
    have h := HD.out
    exact h.tr.ent (ent_emp1 _)
  · obtain ⟨j, rfl⟩ : ∃ j, i = j + 1 := ⟨i - 1, by omega⟩
    have hjl : j < t.2.length := by have := Hcl.out; omega
    obtain ⟨s0, hs0⟩ : ∃ s0, t.2[j]? = some s0 := ⟨_, List.getElem?_eq_getElem hjl⟩
    have HR : Hid (remT 0 t sep = ((t.1.eraseIdx (j + 1), t.2.eraseIdx j), mt)) := by
      show _ = _
      unfold remT
      rw [← Hcl.out.2.1, if_pos (by omega)]; rfl
    have hjj : j + 1 < cs.length := by omega
    go_wp2_with fail
    refine (HO3.out.call (fun L hL => cutz_c w1 b cs t.2 (j + 1) j ((j : Int) + 1) (j : Int) (by simp) rfl s0 L hL hjj hs0 (by omega) (by omega))).mono ?_
    rintro e w2 ⟨r, rfl, HC⟩
    obtain ⟨rfl, HD⟩ := HC.fact
    have HD := hid HD
    clear HC b0 b0i
    go_wp2
    go_ret
    refine ⟨_, rfl, ?_⟩
    rw [HR.out]
    exact Hld.also rfl (HD.out.tr.ent (ent_emp1 _))

theorem ndR.setsep {w : World} {b : Nat} {cs : List Ch} {ss : List ByteArray} {L : List Nat} (h : ndR b cs ss w L) {j : Nat} {s0 : ByteArray} (hj : ss[j]? = some s0) (x : ByteArray) : ∃ g cap, w.cell? ⟨b, 1, none⟩ = some (.slice (some ⟨g, 0, none⟩) ss.length cap) ∧ w.cell? ⟨g, j, none⟩ = some (.string s0) ∧ w.frozen? ⟨g, j, none⟩ = false ∧ ndR b cs (ss.set j x) (w.setCell ⟨g, j, none⟩ (.string x)) L ∧ Mod L w (w.setCell ⟨g, j, none⟩ (.string x)) := by
  obtain ⟨kv, sv, Lk, Ls, hb, hk, hs, h4, h5, h6, rfl⟩ := h
  obtain ⟨hjl, _⟩ := List.getElem?_eq_some_iff.1 hj
  obtain ⟨a, cap, rfl, _, _, hg⟩ := hs.val
  obtain ⟨g, rfl, rfl, hcell⟩ := hg (by omega)
  obtain ⟨_, ⟨cur, hcur⟩, _⟩ := Own.blk hs
  have hc : w.cell? ⟨g, j, none⟩ = some (.string s0) := by
    rw [hcell j (by omega)]
    have := flat_at st_lays ss j s0 hj 0 (by decide)
    simpa [stC] using this
  have hm : Mod [g] w (w.setCell ⟨g, j, none⟩ (.string x)) := (Mod.refl [g] w).setCell (by simp) _
  have hbg : b ≠ g := by simpa using h5
  have hset := Own.set hs j (by omega) (.string x)
  have hfl : flat stC (ss.set j x) = (flat stC ss).set j (.string x) := by
    have := flat_set st_lays ss j s0 x 0 (.string x) hj (by decide) rfl
    simpa using this
  refine ⟨g, cap, hb.cell 1, hc, hcur.free j, ⟨_, _, Lk, [g], hb.other (by simpa using hbg) _, hk.mod hm (fun k hk h => by simp at h; exact h6 k hk (by simp [h])), ?_, h4, h5, h6, rfl⟩, hm.mono (by simp)⟩
  rw [hfl, List.length_set]
  exact hset

/-- The child where a separator lies. -/
theorem rem_child {d : Nat} {t : Tr (d + 1)} {s sep : ByteArray} {x : Tr d} (hF : Fan (d + 1) t) (hs : SrtL (lv (d + 1) t s)) (hsk : ¬ SL sep s) (hm : ∃ p, (sep, p) ∈ lv (d + 1) t s) (hx : t.1[atI t.2 sep]? = some x) :
    ∃ sc, ¬ SL sep sc ∧ SrtL (lv d x sc) ∧ Fan d x ∧ ∃ p, (sep, p) ∈ lv d x sc := by
  obtain ⟨h1, h2, h3, h4⟩ := hF
  obtain ⟨A, B, SA, sc, SB, hC⟩ := cut_at s h3 hx
  obtain ⟨c1, c2, c3, c4, c5⟩ := cut_key h3 h4 hs hsk hC
  refine ⟨sc, c1, c4, c5, ?_⟩
  obtain ⟨p, hp⟩ := hm
  rw [hC.lv] at hp
  rcases List.mem_append.1 hp with k | k
  · exact absurd (c2 _ k) c1
  · rcases List.mem_append.1 k with k | k
    · exact ⟨p, k⟩
    · exact absurd (c3 _ k) (SL_irrefl _)
theorem remT_step {d : Nat} {t : Tr (d + 2)} {sep : ByteArray} {x : Tr (d + 1)} {i : Nat} (hi : i = atI t.2 sep) (hx : t.1[i]? = some x) : remT (d + 1) t sep = if 0 < i ∧ (remT d x sep).2 ≠ mt then (mendT d (t.1.set i (remT d x sep).1, t.2.set (i - 1) (remT d x sep).2) i, mt) else (mendT d (t.1.set i (remT d x sep).1, t.2) i, (remT d x sep).2) := by
  subst hi
  simp only [remT, hx]

set_option maxRecDepth 100000 in
set_option maxHeartbeats 4000000 in
theorem remove_c : ∀ (d : Nat) (t : Tr (d + 1)) (b : Nat) (cs : List Ch) (w : World) (L : List Nat) (s sep : ByteArray), star (ndR b cs t.2) (allR (trR d) t.1 cs) w L → Fan (d + 1) t → SrtL (lv (d + 1) t s) → ¬ SL sep s → (∃ p, (sep, p) ∈ lv (d + 1) t s) →
    Calls Try.prog 31 #[.pointer (some ⟨b, 0, none⟩), .string sep] w (Gives w L fun r w' L' => r = .string (remT d t sep).2 ∧ trR (d + 1) (remT d t sep).1 (.nd b) w' L')
  | 0, t, b, cs, w, L, s, sep, h, hF, hs, _, _ => rem0_c t b cs w L s sep h hF hs
  | d + 1, t, b, cs, w, L, s, sep, h, hF, hs, hsk, hm => by
    have hF1 := hF
    obtain ⟨h1, h2, h3, h4⟩ := hF1
    have HH := (Hld.start h).ent ((ent_emp2 _).under _)
    obtain ⟨L0, hall⟩ := HH.drop.res
    have hcl := allR_len hall
    obtain ⟨i, hi⟩ : ∃ i, i = atI t.2 sep := ⟨_, rfl⟩
    have hil : i < t.1.length := by have := atI_le t.2 sep; omega
    obtain ⟨x, hx⟩ : ∃ x, t.1[i]? = some x := ⟨_, List.getElem?_eq_getElem hil⟩
    obtain ⟨ci, hci⟩ : ∃ ci, cs[i]? = some ci := ⟨_, List.getElem?_eq_getElem (by omega)⟩
    obtain ⟨e1, e1l⟩ := split_at hx
    obtain ⟨e2, e2l⟩ := split_at hci
    have HO := HH.out_kid e1 e2 (by rw [e1l, e2l])
    obtain ⟨bi, csi, hcx, _, _⟩ := HO.tr_open
    subst hcx
    obtain ⟨sc, c1, c4, c5, c6⟩ := rem_child hF hs hsk hm (by rw [← hi]; exact hx)
    have hrok := remT_ok d x sc sep c5 c4 c6
    obtain ⟨L1, hL1⟩ := HH.res
    obtain ⟨g, cap, b0, b0i⟩ := hL1.kid hci
    have hbl := hL1.lt
    have hat := at_c w b cs t.2 sep L1 hL1 (seps_srt hF.one hs) (by omega)
    rw [← hi] at hat
    have Hat := hid hat
    replace b0i : w.cell? ⟨g, i, none⟩ = some (.iface 65 (.pointer (some ⟨bi, 0, none⟩))) := b0i
    have hi1 : (i : Int) < (cs.length : Int) := by omega
    have hi0 : (0 : Int) ≤ (i : Int) := by omega
    have hcs5 : cs.length ≤ 5 := by omega
    have hts5 : t.2.length ≤ 5 := by omega
    have hil2 : i ≤ t.2.length := by omega
    have HO2 := hid HO
    have Hst := hid (remT_step hi hx)
    have Hx := hid (And.intro hx (And.intro e1 (And.intro e1l (And.intro e2 (And.intro e2l (And.intro hcl (And.intro h3 (And.intro h4 hrok.2.1))))))))
    have Hc := hid (And.intro c1 (And.intro c4 (And.intro c5 c6)))
    have q1 := ta_nn
    clear h hF hs hsk hm HH hall hcl hx hci e1 e1l e2 e2l HO hL1 hat hi h3 h4 hil c1 c4 c5 c6 hrok
    go_enter Try.func31, Try.ntmps31
    go_wp2_with fail
    refine Hat.out.mono ?_
    rintro e w1 ⟨rfl, hm1⟩
    have HO3 := hid (HO2.out.mod hm1)
    replace b0 := hm1.cellSome b0 (by simp)
    replace b0i := hm1.cellSome b0i (by simp)
    have hbl1 : b < w1.heap.size := by have := hm1.size; omega
    clear hm1 HO2 Hat hbl
    go_wp2_with fail
    refine (HO3.out.call (fun L hL => by
      obtain ⟨b', cs', e, h⟩ := hL
      cases e
      exact remove_c d x bi cs' w1 L sc sep h Hc.out.2.2.1 Hc.out.2.1 Hc.out.1 Hc.out.2.2.2)).mono ?_
    rintro e w2 ⟨r, rfl, HR⟩
    obtain ⟨rfl, HR1⟩ := HR.fact
    have HD := hid (HR1.in_kid (by rw [Hx.out.2.2.1, Hx.out.2.2.2.2.1]))
    have hx1 := Hx.out.2.2.2.2.2.2.2.2
    clear HR HR1 HO3 b0 b0i hbl1
    obtain ⟨x', hx'⟩ : ∃ x', (remT d x sep).1 = x' := ⟨_, rfl⟩
    obtain ⟨bg, hbg⟩ : ∃ bg, (remT d x sep).2 = bg := ⟨_, rfl⟩
    rw [hx'] at HD hx1
    rw [hbg] at Hst ⊢
    rw [hx'] at Hst
    clear hx' hbg
    have hset : t.1.set i x' = t.1.take i ++ x' :: t.1.drop (i + 1) := by
      rw [List.set_eq_take_append_cons_drop, if_pos (List.getElem?_eq_some_iff.1 Hx.out.1).1]
    have HD' := HD.out
    rw [← hset, ← Hx.out.2.2.2.1] at HD'
    have HE := hid HD'
    have hF' : Hid (∀ j y, (t.1.set i x')[j]? = some y → (j = i → Fan1 d y) ∧ (j ≠ i → Fan (d + 1) y)) := by
      intro j y hy
      rw [List.getElem?_set] at hy
      refine ⟨fun e => ?_, fun e => ?_⟩
      · subst e
        simp only [if_true] at hy
        split at hy
        · cases hy; exact hx1
        · cases hy
      · rw [if_neg (fun h => e h.symm)] at hy
        exact Hx.out.2.2.2.2.2.2.2.1 y (List.mem_of_getElem? hy)
    have hlt : Hid (i < (t.1.set i x').length) := by show _ < _; rw [List.length_set]; exact (List.getElem?_eq_some_iff.1 Hx.out.1).1
    have hl1 : Hid (2 ≤ (t.1.set i x').length ∧ (t.1.set i x').length ≤ 5 ∧ (t.1.set i x').length = t.2.length + 1) := by show _ ∧ _; rw [List.length_set]; exact ⟨h1, h2, Hx.out.2.2.2.2.2.2.1⟩
    clear hset HD HD' hx1
    rcases (by omega : i = 0 ∨ 0 < i) with hz | hz
    · have hgt : ¬ (0 : Int) < (i : Int) := by omega
      have hzz := hid hz
      clear hz
      go_wp2_with fail
      refine (HE.out.as2.call (fun L hL => mend_c d (t.1.set i x', t.2) b cs w2 L i hL hl1.out.1 hl1.out.2.1 hl1.out.2.2 hlt.out hF'.out)).mono ?_
      rintro e w3 ⟨r, rfl, HM⟩
      obtain ⟨rfl, HM1⟩ := HM.fact
      have HM2 := hid HM1
      clear HM HM1
      go_wp2
      go_ret
      refine ⟨_, rfl, ?_⟩
      rw [Hst.out, if_neg (by have := hzz.out; omega)]
      exact Hld.also rfl (HM2.out.ent (ent_emp1 _))
    · have hgt : (0 : Int) < (i : Int) := by omega
      have hzz := hid hz
      by_cases hb : bg = mt
      · have xnk := (mt_iff bg).1 hb
        have Hb := hid hb
        clear hz hb
        go_wp2_with fail
        refine (HE.out.as2.call (fun L hL => mend_c d (t.1.set i x', t.2) b cs w2 L i hL hl1.out.1 hl1.out.2.1 hl1.out.2.2 hlt.out hF'.out)).mono ?_
        rintro e w3 ⟨r, rfl, HM⟩
        obtain ⟨rfl, HM1⟩ := HM.fact
        have HM2 := hid HM1
        clear HM HM1
        go_wp2
        go_ret
        refine ⟨_, rfl, ?_⟩
        rw [Hst.out, if_neg (by simp [Hb.out])]
        exact Hld.also rfl (HM2.out.ent (ent_emp1 _))
      · have xnk := nmt_list hb
        have ynk := nmt_emp hb
        have Hb := hid hb
        obtain ⟨j, rfl⟩ : ∃ j, i = j + 1 := ⟨i - 1, by omega⟩
        have hjl : j < t.2.length := by omega
        obtain ⟨s0, hs0⟩ : ∃ s0, t.2[j]? = some s0 := ⟨_, List.getElem?_eq_getElem hjl⟩
        obtain ⟨L3, hL3, upd⟩ := HE.out.first
        obtain ⟨gs, caps, p0, p1, p2, p3, p4⟩ := hL3.setsep hs0 bg
        have hbl3 := hL3.lt
        have hji : (j : Int) < (t.2.length : Int) := by omega
        have hj0 : (0 : Int) ≤ (j : Int) := by omega
        have HE2 := hid (upd (ndR b cs (t.2.set j bg)) _ L3 p3 p4 (fun k hk => Or.inl hk))
        clear hz hb upd p3 p4 hL3 hs0
        go_upto_region 8 with (fail)
        go_wp2_with fail
        refine (HE2.out.as2.call (fun L hL => mend_c d (t.1.set (j + 1) x', t.2.set j bg) b cs _ L (j + 1) hL hl1.out.1 hl1.out.2.1 (by rw [hl1.out.2.2, List.length_set]) hlt.out hF'.out)).mono ?_
        rintro e w3 ⟨r, rfl, HM⟩
        obtain ⟨rfl, HM1⟩ := HM.fact
        have HM2 := hid HM1
        clear HM HM1
        go_wp2
        go_ret
        refine ⟨_, rfl, ?_⟩
        rw [Hst.out, if_pos ⟨by omega, Hb.out⟩]
        exact Hld.also rfl (HM2.out.ent (ent_emp1 _))
end Go.Proofs.Ythofkkmnngmafaa
