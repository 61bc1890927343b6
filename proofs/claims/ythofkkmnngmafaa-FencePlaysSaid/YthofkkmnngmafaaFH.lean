/- A child that has one child alone is mended: the walk. -/
import Derived.Test.YthofkkmnngmafaaFG
namespace Go.Proofs.Ythofkkmnngmafaa
set_option linter.unusedVariables false
set_option linter.unusedSimpArgs false
set_option linter.unusedSectionVars false
open Go.RowKit

theorem ndR.sep {w : World} {b : Nat} {cs : List Ch} {ss : List ByteArray} {L : List Nat} (h : ndR b cs ss w L) {i : Nat} {s : ByteArray} (hs : ss[i]? = some s) : ∃ g cap, w.cell? ⟨b, 1, none⟩ = some (.slice (some ⟨g, 0, none⟩) ss.length cap) ∧ w.cell? ⟨g, i, none⟩ = some (.string s) ∧ w.frozen? ⟨g, i, none⟩ = false := by
  obtain ⟨kv, sv, Lk, Ls, hb, _, hk, _⟩ := h
  obtain ⟨hi, _⟩ := List.getElem?_eq_some_iff.1 hs
  obtain ⟨a, cap, rfl, _, _, hg⟩ := hk.val
  obtain ⟨g, rfl, _, hcell⟩ := hg (by omega)
  obtain ⟨_, ⟨cur, hcur⟩, _⟩ := Own.blk hk
  refine ⟨g, cap, hb.cell 1, ?_, hcur.free i⟩
  rw [hcell i (by omega)]
  have := flat_at st_lays ss i s hs 0 (by decide)
  simpa [stC] using this
theorem Hld.two_kids {w0 w : World} {L0 : List Nat} {U : Res} {d b : Nat} {cs CA CB : List Ch} {ca cb : Ch} {ss : List ByteArray} {ks A B : List (Tr d)} {x y : Tr d} (h : Hld w0 L0 (star (ndR b cs ss) (star (allR (trR d) ks cs) U)) w) (ek : ks = A ++ x :: y :: B) (ec : cs = CA ++ ca :: cb :: CB) (hl : A.length = CA.length) :
    Hld w0 L0 (star (trR d x ca) (star (trR d y cb) (star (allR (trR d) (A ++ B) (CA ++ CB)) (star (ndR b cs ss) U)))) w := by
  have h1 := h.out_kid ek ec hl
  exact h1.ent ((Ent.left (ent_mid (trR d) y cb B CB A CA hl) _).trans (ent_assoc1 _ _ _) |>.under _)
theorem max_pred (i k : Nat) (h : k = i - 1) : max ((i : Int) - 1) 0 = (k : Int) := by omega
theorem wrap_succ (k : Nat) (h : k ≤ 1000) : wrap64 ((k : Int) + 1) = (k : Int) + 1 := IntWalk.wrap64_in _ ⟨by omega, by omega⟩

instance (d : Nat) (t : Tr (d + 1)) (c : Ch) : Keep (trR (d + 1) t c) := trR_keep (d + 1) t c
instance (d : Nat) (ts : List (Tr (d + 1))) (cs : List Ch) : Keep (allR (trR (d + 1)) ts cs) := allR_keep (trR (d + 1)) (trR_keep (d + 1)) ts cs
instance (d : Nat) (t : Tr (d + 2)) (c : Ch) : Keep (trR (d + 2) t c) := trR_keep (d + 2) t c
theorem one_st {w : World} {g : Nat} {x : ByteArray} {T : TypeId} (h : Blk w g #[.string x] T) : Lx 1 stC w (.slice (some ⟨g, 0, none⟩) 1 1) [x] := by
  refine ⟨_, 1, rfl, Or.inr ⟨g, 0, rfl, fun i y hy j v hj => ?_⟩, by simp⟩
  cases i with
  | zero =>
    simp at hy; subst hy
    rw [show 0 + 0 * 1 + j = j by omega, h.cell, ← hj]
    simp [stC]
  | succ i => simp at hy
/-- What mend gives back. -/
def MendG (d : Nat) (t : Tr (d + 2)) (b : Nat) : Value → Res := fun v w L => v = .tuple #[] ∧ trR (d + 2) t (.nd b) w L

theorem cut1_c (w : World) (b : Nat) (cs : List Ch) (ss : List ByteArray) (i j : Nat) (z : Int) (hz : z = (i : Int)) (s : ByteArray) (L : List Nat) (h : ndR b cs ss w L) (hi : i < cs.length) (hj : ss[j]? = some s) (h1 : cs.length ≤ 1000) (h2 : ss.length ≤ 1000) :
    Calls Try.prog 57 #[.pointer (some ⟨b, 0, none⟩), .int .i64 z, .int .i64 j] w (Gives w L fun r w' L' => r = .string s ∧ ndR b (cs.eraseIdx i) (ss.eraseIdx j) w' L') := by
  subst hz; exact cut_c w b cs ss i j s L h hi hj h1 h2
theorem Own.uniq {w w' : World} {E : TypeId} {sz n n' : Nat} {v : Value} {xs xs' : List Value} {L L' : List Nat} (h : Own w E sz v n xs L) (h' : Own w' E sz v n' xs' L') : L = L' := by
  rcases h.2 with ⟨rfl, _, rfl⟩ | ⟨g, c, cur, rfl, rfl, _⟩
  · rcases h'.2 with ⟨_, _, rfl⟩ | ⟨g', c', cur', e, _⟩
    · rfl
    · cases e
  · rcases h'.2 with ⟨e, _⟩ | ⟨g', c', cur', e, rfl, _⟩
    · cases e
    · cases e; rfl
theorem mendT_eq {d : Nat} {t : Tr (d + 2)} {i k : Nat} {x a y : Tr (d + 1)} {sb : ByteArray} (hx : t.1[i]? = some x) (h2 : x.1.length < 2) (hik : k = i - 1) (ha : t.1[k]? = some a) (hy : t.1[k + 1]? = some y) (hs : t.2[k]? = some sb) :
    mendT d t i = match splT (a.1 ++ y.1) (a.2 ++ sb :: y.2) with
      | (m, none) => ((t.1.set k m).eraseIdx (k + 1), t.2.eraseIdx k)
      | (m, some (r, z)) => (((t.1.set k m).eraseIdx (k + 1)).take (k + 1) ++ r :: ((t.1.set k m).eraseIdx (k + 1)).drop (k + 1), (t.2.eraseIdx k).take k ++ z :: (t.2.eraseIdx k).drop k) := by
  subst hik
  unfold mendT
  rw [hx]
  dsimp only
  rw [if_neg (by omega), ha, hy]
  dsimp only
  rw [List.getD_eq_getElem?_getD, hs, Option.getD_some]
  generalize splT (a.1 ++ y.1) (a.2 ++ sb :: y.2) = r
  obtain ⟨m, o⟩ := r
  cases o <;> rfl
set_option maxRecDepth 100000 in
set_option maxHeartbeats 1000000 in
theorem mend_no (d : Nat) (t : Tr (d + 2)) (b : Nat) (cs : List Ch) (w : World) (L : List Nat) (i : Nat) (x : Tr (d + 1)) (h : star (ndR b cs t.2) (allR (trR (d + 1)) t.1 cs) w L) (hx : t.1[i]? = some x) (hl : t.1.length ≤ 1000) (h2 : 2 ≤ x.1.length) (h3 : x.1.length ≤ 1000) :
    Calls Try.prog 56 #[.pointer (some ⟨b, 0, none⟩), .int .i64 i] w (Gives w L (MendG d t b)) := by
  have HH := (Hld.start h).ent ((ent_emp2 _).under _)
  obtain ⟨L0, hall⟩ := HH.drop.res
  have hcl := allR_len hall
  obtain ⟨hil, hxe⟩ := List.getElem?_eq_some_iff.1 hx
  obtain ⟨ci, hci⟩ : ∃ ci, cs[i]? = some ci := ⟨_, List.getElem?_eq_getElem (by omega)⟩
  obtain ⟨hil2, hce⟩ := List.getElem?_eq_some_iff.1 hci
  have e1 : t.1 = t.1.take i ++ x :: t.1.drop (i + 1) := by rw [← hxe, ← List.drop_eq_getElem_cons hil, List.take_append_drop]
  have e2 : cs = cs.take i ++ ci :: cs.drop (i + 1) := by rw [← hce, ← List.drop_eq_getElem_cons hil2, List.take_append_drop]
  obtain ⟨bi, csi, rfl, hcsi, HO⟩ := (HH.out_kid e1 e2 (by simp; omega)).tr_open
  obtain ⟨L1, hL1⟩ := HO.res
  obtain ⟨g1, cap1, c0⟩ := hL1.kids (by omega)
  have hbil := hL1.lt
  obtain ⟨L2, hL2⟩ := HH.res
  obtain ⟨g, cap, b0, b0i⟩ := hL2.kid hci
  have hbl := hL2.lt
  have b0i' : w.cell? ⟨g, i, none⟩ = some (.iface 65 (.pointer (some ⟨bi, 0, none⟩))) := b0i
  have hi1 : (i : Int) < (cs.length : Int) := by omega
  have hi0 : (0 : Int) ≤ (i : Int) := by omega
  have hk2 : (2 : Int) ≤ (csi.length : Int) := by omega
  have HF : Hid (Gives w L (MendG d t b) (.returned (.tuple #[])) w) := ⟨_, rfl, Hld.also rfl (HH.tr.ent (ent_emp1 _))⟩
  have q2 := ta_nn
  clear h HH hall hcl hx hxe hci hce e1 e2 hcsi HO hL1 hL2 b0i
  go_enter Try.func56, Try.ntmps56
  go_wp2
  exact bodyPost_ret (results_none rfl _ _ _) rfl HF.out

set_option maxRecDepth 100000 in
set_option maxHeartbeats 4000000 in
theorem mend_two (d : Nat) (t : Tr (d + 2)) (b : Nat) (cs : List Ch) (w : World) (L : List Nat) (i k : Nat) (hik : k = i - 1) (x a y : Tr (d + 1)) (A B : List (Tr (d + 1))) (CA CB : List Ch) (ca cb : Ch) (sb : ByteArray) (h : star (ndR b cs t.2) (allR (trR (d + 1)) t.1 cs) w L) (hx : t.1[i]? = some x) (hl : t.1.length ≤ 5) (h2 : x.1.length < 2)
    (ek : t.1 = A ++ a :: y :: B) (ec : cs = CA ++ ca :: cb :: CB) (eA : A.length = k) (eCA : CA.length = k) (hsb : t.2[k]? = some sb) (h5 : t.1.length = t.2.length + 1)
    (ha : Fan1 d a) (hb : Fan1 d y) (hsum : 3 ≤ a.1.length + y.1.length ∧ a.1.length + y.1.length ≤ 6) :
    Calls Try.prog 56 #[.pointer (some ⟨b, 0, none⟩), .int .i64 i] w (Gives w L (MendG d (mendT d t i) b)) := by
  have HH := (Hld.start h).ent ((ent_emp2 _).under _)
  obtain ⟨L0, hall⟩ := HH.drop.res
  have hcl := allR_len hall
  have HT := HH.two_kids ek ec (by rw [eA, eCA])
  obtain ⟨ba, csa, rfl, hcsa, HTa⟩ := HT.tr_open
  obtain ⟨bb, csb, rfl, hcsb, HTb⟩ := (HTa.ent (ent_pull3 _ _ _ _)).tr_open
  -- y's node and children, a's node and children, the rest, the node
  obtain ⟨L2, hL2⟩ := HH.res
  have hka : cs[k]? = some (.nd ba) := by rw [ec, List.getElem?_append_right (by omega), eCA]; simp
  have hkb : cs[k + 1]? = some (.nd bb) := by rw [ec, List.getElem?_append_right (by omega), eCA]; simp
  have hxa : t.1[k]? = some a := by rw [ek, List.getElem?_append_right (by omega), eA]; simp
  have hxb : t.1[k + 1]? = some y := by rw [ek, List.getElem?_append_right (by omega), eA]; simp
  have ha1 := ha.1
  have hb1 := hb.1
  obtain ⟨La, hLa⟩ := (HTb.ent (ent_pull3 _ _ _ _)).res
  obtain ⟨Lb, hLb⟩ := HTb.res
  obtain ⟨ga, capa, a0⟩ := hLa.kids (by omega)
  obtain ⟨gb, capb, bb0⟩ := hLb.kids (by omega)
  have hbal := hLa.lt
  have hbbl := hLb.lt
  obtain ⟨g, cap, b0, c0⟩ := hL2.kid hka
  obtain ⟨g', cap', b0', c1⟩ := hL2.kid hkb
  rw [b0] at b0'
  cases b0'
  have hbl := hL2.lt
  have hkl : k + 1 < cs.length := (List.getElem?_eq_some_iff.1 hkb).1
  replace c0 : w.cell? ⟨g, k, none⟩ = some (.iface 65 (.pointer (some ⟨ba, 0, none⟩))) := c0
  replace c1 : w.cell? ⟨g, k + 1, none⟩ = some (.iface 65 (.pointer (some ⟨bb, 0, none⟩))) := c1
  obtain ⟨bi, gi, capi, ni, d0, d1, hni, hbil⟩ : ∃ bi gi capi ni, w.cell? ⟨g, i, none⟩ = some (.iface 65 (.pointer (some ⟨bi, 0, none⟩))) ∧ w.cell? ⟨bi, 0, none⟩ = some (.slice (some ⟨gi, 0, none⟩) ni capi) ∧ ni < 2 ∧ bi < w.heap.size := by
    rcases Nat.eq_zero_or_pos i with h0 | h0
    · have e : i = k := by omega
      rw [e] at hx ⊢
      rw [hxa] at hx
      cases hx
      exact ⟨ba, ga, capa, _, c0, a0, by omega, hbal⟩
    · have e : i = k + 1 := by omega
      rw [e] at hx ⊢
      rw [hxb] at hx
      cases hx
      exact ⟨bb, gb, capb, _, c1, bb0, by omega, hbbl⟩
  obtain ⟨gs, caps, s0, s1, _⟩ := hL2.sep hsb
  have hil : (i : Int) < (cs.length : Int) := by have := (List.getElem?_eq_some_iff.1 hx).1; omega
  have hi0 : (0 : Int) ≤ (i : Int) := by omega
  have hni2 : ¬ (2 : Int) ≤ (ni : Int) := by omega
  have hk1 : (k : Int) < (cs.length : Int) := by omega
  have hk0 : (0 : Int) ≤ (k : Int) := by omega
  have hk2 : (k : Int) + 1 < (cs.length : Int) := by omega
  have hk3 : (0 : Int) ≤ (k : Int) + 1 := by omega
  have hkn : ((k : Int) + 1).toNat = k + 1 := by omega
  have hks : (k : Int) < (t.2.length : Int) := by omega
  have hi1000 : i ≤ 1000 := by omega
  have hk1000 : k ≤ 1000 := by omega
  have Hmx := hid (max_pred i k hik)
  have q2 := ta_nn
  have q3 := ta_nn1
  have HQ := hid (HTb.ent (ent_pull3 _ _ _ _))
  have HF := hid (And.intro hcl (And.intro hcsa (And.intro hcsb (And.intro ek (And.intro ec (And.intro eA (And.intro eCA (And.intro hsb h5))))))))
  have HX := hid (And.intro hx (And.intro hxa (And.intro hxb hik)))
  clear h HH hall hcl HT HTa HTb hL2 hka hkb hxa hxb hLa hLb hx hcsa hcsb ek ec eA eCA hsb h5 hik
  go_enter Try.func56, Try.ntmps56
  go_upto_region 2 with (fail)
  go_cut [6] from 32 to 34 (fun p wx => p = .int .i64 (k : Int) ∧ w = wx)
  case first =>
    go_wp2
    go_meet
    exact ⟨by rw [Hmx.out], rfl⟩
  case rest =>
  obtain ⟨rfl, he⟩ := hcut
  subst he
  go_upto_region 3 with (fail)
  go_region
  have HQ1 := hid (HQ.out.drew)
  clear d0 d1 hni2 hbil hi0 hil a0 bb0 b0 c0 c1 s0 s1 HQ hbal hbbl hbl q2 q3 hni
  generalize w.drew = V at *
  -- a's children, with y's behind them
  obtain ⟨ka, sa, HN⟩ := HQ1.out.nd_open
  obtain ⟨Lb, hLb⟩ := HN.drop.drop.drop.res
  obtain ⟨kb, sbv, Lkb, Lsb, hbb, hkb, hsbb, _⟩ := hLb
  have bb0 : V.cell? ⟨bb, 0, none⟩ = some kb := hbb.cell 0
  have hbbl := hbb.lt
  have hXb := hid ((Own.lx ch_lays hkb).mod (Mod.refl [] V).drew)
  have hBa := HN.get
  have a0 := hBa.cell 0
  have hbal := hBa.lt
  simp only [List.getElem?_toArray, List.getElem?_cons_zero] at a0
  have HNd := hid HN.drew.swap
  clear HN hbb hkb hsbb hBa HQ1
  have hl6 : csa.length + csb.length ≤ 6 := by have := HF.out.2.1; have := HF.out.2.2.1; omega
  go_upto_region 4 with (fail)
  go_cut [] from 52 to 63 (fun wx => ∃ e1 e2, Hid (Hld w L (star (boxR ba #[.slice e1 (csa.length + csb.length) e2, sa] 72) (star (rowR 60 1 (.slice e1 (csa.length + csb.length) e2) (csa.length + csb.length) (flat chC csa ++ flat chC csb)) (star (rowR 9 1 sa a.2.length (flat stC a.2)) (star (ndR bb csb y.2) (star (allR (trR d) y.1 csb) (star (allR (trR d) a.1 csa) (star (allR (trR (d + 1)) (A ++ B) (CA ++ CB)) (star (ndR b cs t.2) emp)))))))) wx))
  case first =>
    obtain ⟨Lka, hka, upd⟩ := HNd.out.first
    have Hka := hid hka
    have Hupd := hid upd
    clear hka upd
    go_region_law (first
      | (refine step_append_lx ch_lays rfl (.tmp 56) (.tmp 60) 70 60 rfl Try.underlying70 cin_el rfl (by simp [Act.eval, Act.put]) Hka.out (by simp [Act.eval, Act.put]) hXb.out (by omega) (by omega) ?_; intro v1 w1 L1 h1 h2 h3; have HN1 := hid ((Hupd.out (rowR 60 1 v1 _ _) w1 L1 h1.out h2.out h3.out).swap); have hB1 := HN1.out.get; have a0 := hB1.cell 0; have fa0 := hB1.free 0; have hbal := hB1.lt; simp only [List.getElem?_toArray, List.getElem?_cons_zero] at a0; obtain ⟨e1, e2, rfl, _, _, _⟩ := Own.val h1.out; clear hB1)
      | fail)
    all_goals
      go_wp2
      go_meet
      exact ⟨e1, e2, HN1.out.set 0 (.slice e1 (csa.length + csb.length) e2)⟩
  case rest =>
  obtain ⟨e1, e2, hcut⟩ := hcut
  have HN2 := hcut.out
  -- y's node, opened too
  obtain ⟨kb2, sb2, HN3⟩ := (HN2.ent (ent_pull4 _ _ _ _ _)).nd_open
  have HN4 := hid (HN3.ent ((ent_drop _ _).under _))
  clear HN2 HN3 a0 hbal bb0 hbbl HNd hXb hcut
  have bb1 := HN4.out.get.cell 1
  have hbbl := HN4.out.get.lt
  have hbal := HN4.out.drop.drop.get.lt
  have a1 := HN4.out.drop.drop.get.cell 1
  obtain ⟨L7, hL7⟩ := (HN4.out.drop.drop.drop.drop.drop.drop.drop.drop).res
  obtain ⟨gs, caps, s0, s1, _⟩ := hL7.sep HF.out.2.2.2.2.2.2.2.1
  have hbl := hL7.lt
  simp only [List.getElem?_toArray, List.getElem?_cons_zero, List.getElem?_cons_succ, List.setIfInBounds_toArray, List.set_cons_zero] at bb1 a1
  have hl7 : a.2.length + 1 + y.2.length ≤ 6 := by have := ha.2.2.1; have := hb.2.2.1; omega
  go_upto_region 5 with (fail)
  go_cut [] from 64 to 84 (fun wx => ∃ e3 e4 kbx sbx, Hid (Hld w L (star (boxR ba #[.slice e1 (csa.length + csb.length) e2, .slice e3 (a.2.length + [sb].length + y.2.length) e4] 72) (star (rowR 9 1 (.slice e3 (a.2.length + [sb].length + y.2.length) e4) (a.2.length + [sb].length + y.2.length) ((flat stC a.2 ++ flat stC [sb]) ++ flat stC y.2)) (star (boxR bb #[kbx, sbx] 72) (star (rowR 9 1 sbx y.2.length (flat stC y.2)) (star (rowR 60 1 (.slice e1 (csa.length + csb.length) e2) (csa.length + csb.length) (flat chC csa ++ flat chC csb)) (star (allR (trR d) y.1 csb) (star (allR (trR d) a.1 csa) (star (allR (trR (d + 1)) (A ++ B) (CA ++ CB)) (star (ndR b cs t.2) emp))))))))) wx))
  case first =>
    -- a's separators, with the one between, and y's behind them
    have HN5 := HN4.out.drew.mod ((Mod.refl [] wc.drew).alloc (.cells #[.string sb] 9))
    obtain ⟨Lsa, hsa, upd⟩ := (HN5.ent (ent_pull5 _ _ _ _ _ _)).first
    have Hsa := hid hsa
    have Hupd := hid upd
    have Hone := hid (one_st (Blk.new wc.drew #[.string sb] 9))
    have hla : a.2.length + [sb].length ≤ 6 := by simp; omega
    have hlb : a.2.length + [sb].length + y.2.length ≤ 6 := by simp; omega
    clear hsa upd HN5 hL7
    go_region_law (first
      | (refine step_append_lx st_lays rfl (.tmp 68) (.tmp 76) 23 9 rfl Try.underlying23 sin_el rfl (by simp [Act.eval, Act.put]) Hsa.out (by simp [Act.eval, Act.put]) Hone.out (by omega) (by omega) ?_; intro v3 w3 L3 h1 h2 h3; have HN6 := hid (Hupd.out (rowR 9 1 v3 _ _) w3 L3 h1.out h2.out h3.out); obtain ⟨L4, hs4, upd4⟩ := HN6.out.first; have Hs4 := hid hs4; have Hupd4 := hid upd4; obtain ⟨L6, hs6⟩ := HN6.out.drop.drop.res; have hXs := hid (Own.lx st_lays hs6); replace bb1 := HN6.out.drop.get.cell 1; replace hbbl := HN6.out.drop.get.lt; replace hbal := HN6.out.drop.drop.drop.get.lt; simp only [List.getElem?_toArray, List.getElem?_cons_zero, List.getElem?_cons_succ] at bb1; clear hs4 upd4 hs6)
      | (refine step_append_lx st_lays rfl (.tmp 77) (.tmp 81) 23 9 rfl Try.underlying23 sin_el rfl (by simp [Act.eval, Act.put]) Hs4.out (by simp [Act.eval, Act.put]) hXs.out (by omega) (by omega) ?_; intro v5 w5 L5 h4 h5 h6; have HN7 := hid ((Hupd4.out (rowR 9 1 v5 _ _) w5 L5 h4.out h5.out h6.out).ent (ent_pull4 _ _ _ _ _)); have a1' := HN7.out.get.cell 1; have fa1 := HN7.out.get.free 1; replace hbal := HN7.out.get.lt; simp only [List.getElem?_toArray, List.getElem?_cons_zero, List.getElem?_cons_succ, List.setIfInBounds_toArray, List.set_cons_zero] at a1'; obtain ⟨e3, e4, rfl, _, _, _⟩ := Own.val h4.out)
      | fail)
    all_goals
      go_wp2
      go_meet
      exact ⟨e3, e4, _, _, HN7.out.set 1 (.slice e3 (a.2.length + [sb].length + y.2.length) e4)⟩
  case rest =>
  obtain ⟨e3, e4, kbx, sbx, hcut⟩ := hcut
  have ef1 : flat chC csa ++ flat chC csb = flat chC (csa ++ csb) := by simp [flat]
  have ef2 : (flat stC a.2 ++ flat stC [sb]) ++ flat stC y.2 = flat stC (a.2 ++ sb :: y.2) := by simp [flat]
  have HM0 := hcut.out
  rw [ef1, ef2] at HM0
  have HM1 := HM0.ent ((((ent_drop _ _).trans (ent_drop _ _)).under _).under _)
  have HM2 := Hld.nd (cs := csa ++ csb) (ss := a.2 ++ sb :: y.2) HM1.swap2 (by simp) (by simp; omega)
  have hlm := (HF.out.2.1).symm
  have HM3 := HM2.swap2.ent (((ent_assoc2 _ _ _).trans (Ent.left (ent_app2 (trR d) y.1 csb a.1 csa hlm) _)).under _)
  have HM4 := hid (HM3.ent (ent_pull4 _ _ _ _ _))
  have hcs5 : cs.length ≤ 5 := by have := HF.out.1; omega
  have hts4 : t.2.length ≤ 4 := by have := HF.out.2.2.2.2.2.2.2.2; omega
  have hkk : k + 1 < cs.length := hkl
  have hkk1 : (k : Int) + 1 ≤ 9223372036854775807 := by omega
  clear HM0 HM1 HM2 HM3 hcut ef1 ef2 HN4 bb1 a1 hbbl hbal hbl s0 s1
  go_wp2_with fail
  refine (HM4.out.call (fun L hL => cut1_c wc b cs t.2 (k + 1) k _ (by simp) sb L hL hkk HF.out.2.2.2.2.2.2.2.1 (by omega) (by omega))).mono ?_
  rintro e w8 ⟨r, rfl, HC0⟩
  obtain ⟨rfl, HC⟩ := HC0.fact
  have HC := hid HC
  clear HC0 HM4
  -- what mend is
  have HT : Hid (mendT d t i = match splT (a.1 ++ y.1) (a.2 ++ sb :: y.2) with
      | (m, none) => ((t.1.set k m).eraseIdx (k + 1), t.2.eraseIdx k)
      | (m, some (r, z)) => (((t.1.set k m).eraseIdx (k + 1)).take (k + 1) ++ r :: ((t.1.set k m).eraseIdx (k + 1)).drop (k + 1), (t.2.eraseIdx k).take k ++ z :: (t.2.eraseIdx k).drop k)) :=
    mendT_eq HX.out.1 h2 HX.out.2.2.2 HX.out.2.1 HX.out.2.2.1 HF.out.2.2.2.2.2.2.2.1
  have hset : Hid (∀ m, (t.1.set k m).eraseIdx (k + 1) = A ++ m :: B) := fun m => by
    have e1 := HF.out.2.2.2.1
    have e2 := HF.out.2.2.2.2.2.1
    rw [e1]
    conv => lhs; rw [← e2]
    rw [set_at]; exact erase_after _ _ _ _
  have hers : cs.eraseIdx (k + 1) = CA ++ .nd ba :: CB := by
    have e1 := HF.out.2.2.2.2.1
    have e2 := HF.out.2.2.2.2.2.2.1
    rw [e1]
    conv => lhs; rw [← e2]
    exact erase_after _ _ _ _
  have hAC : Hid (A.length = CA.length) := HF.out.2.2.2.2.2.1.trans HF.out.2.2.2.2.2.2.1.symm
  obtain ⟨csm, hcsm⟩ : ∃ csm, csa ++ csb = csm := ⟨_, rfl⟩
  obtain ⟨ssm, hssm⟩ : ∃ ssm, a.2 ++ sb :: y.2 = ssm := ⟨_, rfl⟩
  obtain ⟨ksm, hksm⟩ : ∃ ksm, a.1 ++ y.1 = ksm := ⟨_, rfl⟩
  have hlc : csm.length = a.1.length + y.1.length := by rw [← hcsm]; simp; rw [HF.out.2.1, HF.out.2.2.1]
  have hlk : ksm.length = csm.length := by rw [hlc, ← hksm]; simp
  have hls : ssm.length + 1 = csm.length := by rw [← hssm, hlc]; simp; have := ha.2.2.1; have := hb.2.2.1; omega
  have HC' := HC.out
  rw [hcsm, hssm, hksm] at HC'
  rw [hssm, hksm] at HT
  replace HC := hid HC'
  have Hlen := hid (And.intro hlc (And.intro hlk hls))
  have hc6 : (csm.length : Int) ≤ 6 := by omega
  have hc3 : 0 < csm.length := by omega
  have Hers := hid hers
  clear HC' hers hcsm hssm hksm hlc hlk hls
  obtain ⟨L9, hL9⟩ := HC.out.drop.res
  obtain ⟨g9, cap9, a0⟩ := hL9.kids hc3
  have hbal := hL9.lt
  clear hL9
  by_cases h5 : csm.length ≤ 5
  · have h5i : ¬ (5 : Int) < (csm.length : Int) := by omega
    have H5 := hid h5
    clear h5 hc6 hc3 hcs5 hts4 hkk hkk1 hk1 hk0 hk2 hk3 hkn hks hi1000 hk1000 hkl ha1 hb1 hsum hl h2 hl6 hl7
    go_wp2
    refine bodyPost_ret (results_none rfl _ _ _) rfl ?_
    have hks5 : ksm.length ≤ 5 := by rw [Hlen.out.2.1]; exact H5.out
    have hsp : splT ksm ssm = ((ksm, ssm), none) := by unfold splT; rw [if_pos hks5]
    refine ⟨_, rfl, ?_⟩
    rw [HT.out, hsp]
    dsimp only
    rw [hset.out]
    refine Hld.also rfl ?_
    have h9 := HC.out.ent ((((ent_assoc2 _ _ _).trans (Ent.left (ent_tr1 ba csm ksm ssm) _)).under _))
    have h8 := h9.ent (((ent_assoc2 _ _ _).trans (Ent.left (ent_mid2 (trR (d + 1)) (ksm, ssm) (.nd ba) B CB A CA hAC.out) _)).under _)
    rw [← Hers.out] at h8
    exact h8.tr.ent (ent_emp1 _)
  · have h5i : (5 : Int) < (csm.length : Int) := by omega
    have h6 : csm.length = 6 := by omega
    have hs5 : ssm.length = 5 := by have := Hlen.out.2.2; omega
    have hk6 : ksm.length = 6 := by have := Hlen.out.2.1; omega
    obtain ⟨up, hup⟩ : ∃ up, ssm.getD 2 mt = up := ⟨_, rfl⟩
    have hsep : ssm[2]? = some up := by rw [← hup, List.getD_eq_getElem?_getD, List.getElem?_eq_getElem (by omega)]; rfl
    have hsc := hid (fun L hL => split_c w8 ba csm ssm L hL h6 hs5 _ hsep)
    have HC2 := hid HC.out.swap
    have hsp : Hid (splT ksm ssm = ((ksm.take 3, ssm.take 2), some ((ksm.drop 3, ssm.drop 3), up))) := by
      show _ = _
      unfold splT
      rw [if_neg (by omega), hk6, ← hup]
    clear hup h5 hc6 hc3 hi1000 hk1000 hkl ha1 hb1 hsum hl h2 hl6 hl7 hs5 hk6 hsep HC
    go_wp2_with fail
    refine (HC2.out.call hsc.out).mono ?_
    rintro e w9 ⟨r, rfl, HM⟩
    obtain ⟨b2, HMa⟩ := HM.ex
    obtain ⟨rfl, HMb⟩ := HMa.fact
    have HD0 := HMb.as1.ent (ent_pull3 _ _ _ _)
    rw [← List.take_append_drop 3 ksm] at HD0
    conv at HD0 => arg 3; arg 2; arg 2; arg 2; arg 1; rw [← List.take_append_drop 3 csm]
    have hl3 : (ksm.take 3).length = (csm.take 3).length := by have := Hlen.out.2.1; simp; omega
    have HD1 := HD0.ent (((((Ent.left (ent_app (trR d) _ _ _ _ hl3) _).trans (ent_assoc1 _ _ _)).under _).under _).under _)
    have HD2 := HD1.ent (((((ent_swap _ _ _).under _).trans (ent_assoc2 _ _ _)).trans (Ent.left (ent_tr1 _ _ _ _) _)).under _)
    have HD3 := HD2.ent ((((ent_assoc2 _ _ _).trans (Ent.left (ent_tr1 _ _ _ _) _)).under _).under _)
    -- the node's children
    obtain ⟨ce, hce⟩ : ∃ ce, cs.eraseIdx (k + 1) = ce := ⟨_, rfl⟩
    obtain ⟨se, hse⟩ : ∃ se, t.2.eraseIdx k = se := ⟨_, rfl⟩
    have hcel : ce.length + 1 = cs.length := by rw [← hce, List.length_eraseIdx_of_lt hkk]; omega
    have hsel : se.length + 1 = t.2.length := by rw [← hse, List.length_eraseIdx_of_lt (by omega)]; omega
    rw [hce, hse] at HD3
    rw [hse] at HT
    rw [hce] at Hers
    obtain ⟨kv, sv, HN⟩ := HD3.nd_open
    have HN := hid HN
    have hB := HN.out.get
    have b0 := hB.cell 0
    have hbl := hB.lt
    simp only [List.getElem?_toArray, List.getElem?_cons_zero] at b0
    obtain ⟨L1, hk9⟩ := HN.out.drop.res
    have hk9l := hk9.lt
    have Hk9 := hid hk9
    have Hk9l := hid hk9l
    have hk2' : (k : Int) + 1 ≤ 9223372036854775807 := by omega
    have hce5 : ce.length ≤ 4 := by omega
    have hkce : k + 1 ≤ ce.length := by omega
    have hkse : k ≤ se.length := by omega
    have hse5 : se.length ≤ 3 := by omega
    have Hcl := hid (And.intro hce (And.intro hse (And.intro hcel hsel)))
    obtain ⟨gx, cx, rfl, _, _, _⟩ := Own.val hk9
    clear hB hk9 hk9l HM HMa HMb HD0 HD1 HD2 HD3 hsc HC2 a0 hbal hce hse hcel hsel hl3
    go_wp2_with fail
    have HB := hid (Blk.new w9 #[.iface 65 (.pointer (some ⟨b2, 0, none⟩))] 60)
    have HN2 := hid (HN.out.mod ((Mod.refl [] w9).alloc (.cells #[.iface 65 (.pointer (some ⟨b2, 0, none⟩))] 60)))
    clear b0 HN hbl
    generalize w9.alloc (.cells #[.iface 65 (.pointer (some ⟨b2, 0, none⟩))] 60) = W at *
    generalize w9.heap.size = q at *
    obtain ⟨Lk, hk2x, upd⟩ := HN2.out.swap.first
    have hLk := Own.uniq Hk9.out hk2x
    refine (cin1_c W _ ce (k + 1) _ (by simp) (.nd b2) q Lk hk2x hkce (by omega) HB.out (by rw [← hLk]; intro h; have := Hk9l.out q h; omega)).mono ?_
    rintro e w3 ⟨v', L', rfl, ho', hm3, hf3⟩
    have HN3 := (upd (rowR 60 1 v' _ _) w3 L' ho' hm3 hf3).swap
    obtain ⟨a3, cap3, rfl, _, _, _⟩ := Own.val ho'
    clear upd hk2x ho' hm3 hf3 HN2 HB hLk Hk9 Hk9l
    have hB := HN3.get
    have f0 := hB.free 0
    have b0 := hB.cell 0
    have b1 := hB.cell 1
    have hbl := hB.lt
    simp only [List.getElem?_toArray, List.getElem?_cons_zero, List.getElem?_cons_succ] at b0 b1
    have HN3 := hid HN3
    obtain ⟨cs', hcs'⟩ : ∃ cs', cs' = ce.take (k + 1) ++ .nd b2 :: ce.drop (k + 1) := ⟨_, rfl⟩
    rw [← hcs'] at HN3 ⊢
    have Hcs' := hid hcs'
    clear hB hcs'
    go_upto_region 10 with (fail)
    have HN4 := hid (HN3.out.set 0 (.slice a3 cs'.length cap3))
    clear HN3 b0 b1 f0 hbl
    generalize w3.setCell ⟨b, 0, none⟩ (.slice a3 cs'.length cap3) = w4 at *
    have hB := HN4.out.get
    have b1 := hB.cell 1
    have hbl := hB.lt
    simp only [List.getElem?_toArray, List.getElem?_cons_zero, List.getElem?_cons_succ, List.setIfInBounds_toArray, List.set_cons_zero] at b1
    obtain ⟨L1', hk9⟩ := HN4.out.drop.drop.res
    have Hk9 := hid hk9
    have Hk9l := hid hk9.lt
    obtain ⟨gx', cx', rfl, _, _, _⟩ := Own.val hk9
    clear hB hk9
    go_wp2_with fail
    have HB := hid (Blk.new w4 #[.string up] 9)
    have HN5 := hid (HN4.out.mod ((Mod.refl [] w4).alloc (.cells #[.string up] 9)))
    clear b1 HN4 hbl
    generalize w4.alloc (.cells #[.string up] 9) = W5 at *
    generalize w4.heap.size = q5 at *
    obtain ⟨Ls, hs2, upd⟩ := HN5.out.swap.swap2.swap.first
    have hLs := Own.uniq Hk9.out hs2
    refine (sin_c W5 _ se k up q5 Ls hs2 hkse (by omega) HB.out (by rw [← hLs]; intro h; have := Hk9l.out q5 h; omega)).mono ?_
    rintro e w6 ⟨v6, L6, rfl, ho', hm3, hf3⟩
    have HN6 := ((upd (rowR 9 1 v6 _ _) w6 L6 ho' hm3 hf3).ent (ent_pull3 _ _ _ _)).swap2
    obtain ⟨a6, cap6, rfl, _, _, _⟩ := Own.val ho'
    clear upd hs2 ho' hm3 hf3 HN5 HB hLs Hk9 Hk9l
    have hB := HN6.get
    have f1 := hB.free 1
    have b1 := hB.cell 1
    have hbl := hB.lt
    simp only [List.getElem?_toArray, List.getElem?_cons_zero, List.getElem?_cons_succ, List.setIfInBounds_toArray, List.set_cons_zero] at b1
    have HN6 := hid HN6
    obtain ⟨ss', hss'⟩ : ∃ ss', ss' = se.take k ++ up :: se.drop k := ⟨_, rfl⟩
    rw [← hss'] at HN6 ⊢
    have Hss' := hid hss'
    clear hB hss'
    go_wp2
    refine bodyPost_ret (results_none rfl _ _ _) rfl ?_
    have HN7 := HN6.out.set 1 (.slice a6 ss'.length cap6)
    have HN8 := Hld.nd (kv := .slice a3 cs'.length cap3) (sv := .slice a6 ss'.length cap6) HN7 (by rw [Hcs'.out]) (by rw [Hss'.out])
    have ecs' : cs' = CA ++ .nd ba :: .nd b2 :: CB := by
      rw [Hcs'.out, Hers.out]
      have e2 := HF.out.2.2.2.2.2.2.1
      conv => lhs; rw [← e2]
      exact ins_after _ _ _ _
    have HN9 := HN8.ent (((((ent_assoc2 _ _ emp).trans (Ent.left (ent_mid2 (trR (d + 1)) (ksm.drop 3, ssm.drop 3) (.nd b2) B CB A CA hAC.out) emp)).under _).trans ((ent_assoc2 _ _ _).trans (Ent.left (ent_mid2 (trR (d + 1)) (ksm.take 3, ssm.take 2) (.nd ba) ((ksm.drop 3, ssm.drop 3) :: B) (.nd b2 :: CB) A CA hAC.out) emp))).under _)
    rw [← ecs'] at HN9
    refine ⟨_, rfl, ?_⟩
    rw [HT.out, hsp.out]
    dsimp only
    rw [hset.out]
    have e3 : (A ++ (ksm.take 3, ssm.take 2) :: B).take (k + 1) ++ (ksm.drop 3, ssm.drop 3) :: (A ++ (ksm.take 3, ssm.take 2) :: B).drop (k + 1) = A ++ (ksm.take 3, ssm.take 2) :: (ksm.drop 3, ssm.drop 3) :: B := by
      have e2 := HF.out.2.2.2.2.2.1
      conv => lhs; rw [← e2]
      exact ins_after _ _ _ _
    rw [e3, ← Hss'.out]
    exact Hld.also rfl (HN9.tr.ent (ent_emp1 _))
end Go.Proofs.Ythofkkmnngmafaa
