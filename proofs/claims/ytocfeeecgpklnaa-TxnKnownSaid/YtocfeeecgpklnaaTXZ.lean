/- What is done to both: Answer, End. -/
import Derived.Test.YtocfeeecgpklnaaTXY
namespace Go.Proofs.Ytocfeeecgpklnaa
set_option linter.unusedVariables false
set_option linter.unusedSimpArgs false
set_option linter.unusedSectionVars false
open Go.RowKit Go.Shelf

theorem ent_assoc (A B C : Res) : Ent (star (star A B) C) (star A (star B C)) := by
  rintro w L ⟨L12, L3, ⟨L1, L2, h1, h2, rfl, hd⟩, h3, rfl, hd'⟩
  refine ⟨L1 ++ (L2 ++ L3), ⟨L1, L2 ++ L3, h1, ⟨L2, L3, h2, h3, rfl, fun k hk => hd' k (by simp [hk])⟩, rfl, fun k hk h => ?_⟩, fun k hk => by simpa using hk⟩
  rcases List.mem_append.1 h with h | h
  · exact hd k hk h
  · exact hd' k (by simp [hk]) h
theorem Top.two {w0 w w' : World} {R : Res} [Keep R] (h : Top w0 R w) {p g : Nat} {c d : Array Value} {S T : TypeId} (hp : Blk w' p c S) (hg : Blk w' g d T) (hpg : p ≠ g) (hm : Mod [] w w') (h1 : w.heap.size ≤ p) (h2 : w.heap.size ≤ g) : Top w0 (star (boxR p c S) (star (boxR g d T) R)) w' :=
  (h.made (R' := star (boxR p c S) (boxR g d T)) (L := [p] ++ [g]) ⟨[p], [g], ⟨hp, rfl⟩, ⟨hg, rfl⟩, rfl, fun k hk hk' => by simp at hk hk'; exact hpg (hk ▸ hk')⟩ hm (fun k hk => by simp at hk; rcases hk with rfl | rfl; exact h1; exact h2)).ent (ent_assoc _ _ _)
theorem Top.pull4 {w0 w : World} {A B C D R U : Res} (h : Top w0 (star A (star B (star C (star D (star R U))))) w) : Top w0 (star R (star A (star B (star C (star D U))))) w :=
  (((h.ent ((((ent_swap D R U).under C).under B).under A)).ent (((ent_swap C R (star D U)).under B).under A)).ent ((ent_swap B R (star C (star D U))).under A)).ent (ent_swap A R (star B (star C (star D U))))
theorem two_boxes2 (w : World) (c d : Array Value) (S T : TypeId) : Mod [] w ((w.alloc (.cells c S)).alloc (.cells d T)).drew ∧ Blk ((w.alloc (.cells c S)).alloc (.cells d T)).drew w.heap.size c S ∧ Blk ((w.alloc (.cells c S)).alloc (.cells d T)).drew (w.heap.size + 1) d T := by
  have h := Blk.new (w.alloc (.cells c S)) d T
  rw [World.size_alloc] at h
  exact ⟨(((Mod.refl [] w).alloc _).alloc _).drew, ((Blk.new w c S).alloc _).drew, h.drew⟩
theorem one_pr {w : World} {g : Nat} {x : Pr} {T : TypeId} (h : Blk w g (#[.string x.key, .string x.val] : Array Value) T) : Lx 2 prC w (.slice (some ⟨g, 0, none⟩) 1 1) [x] := by
  refine ⟨_, 1, rfl, Or.inr ⟨g, 0, rfl, fun i y hy j v hj => ?_⟩, by simp⟩
  cases i with
  | zero =>
    simp at hy; subst hy
    rw [show 0 + 0 * 2 + j = j by omega, h.cell, ← hj]
    simp [prC]
  | succ i => simp at hy
theorem nil_pr (w : World) : Lx 2 prC w (.slice none 0 0) [] := ⟨none, 0, rfl, Or.inl rfl, by simp⟩

section
variable (w0 w : World) (b b' : Nat) (t : Tx) (xw : Int) (xc : Cl) (xn : Nat) (xr : Rc) (xv : ByteArray) (now : Nat) (U : Res) [Keep U]
set_option maxRecDepth 100000 in
set_option maxHeartbeats 1000000 in
theorem do_answer5 (h : Top w0 (star (txR b t) (star (rxR b' t) U)) w) (k1 : xr.key.size ≤ 9223372036854775807) (k2 : xv.size ≤ 9223372036854775807) :
    Calls Try.prog 23 #[.pointer (some ⟨b, 0, none⟩), .pointer (some ⟨b', 0, none⟩), acV ⟨5, xc, xn, xr, xv⟩, .int .u64 now] w fun e w' => e = .returned (.bool true) ∧ Top w0 (star (txR b (answerT t now)) (star (rxR b' (answerT t now)) U)) w' := by
  have hT := h.box (acA ⟨5, xc, xn, xr, xv⟩) 34
  obtain ⟨⟨c0, c1, c2, c3, c4, c5⟩, ⟨c6, c7, c8, c9, c10, c11⟩, hql⟩ := hT.get.ac
  simp only at c0 c1 c2 c3 c4 c5 c6 c7 c8 c9 c10 c11
  have HT := hid hT
  clear h hT
  go_enter Try.func23, Try.ntmps23
  go_upto_region 1 with (fail)
  generalize w.alloc (.cells (acA ⟨5, xc, xn, xr, xv⟩) 34) = W at *
  generalize w.heap.size = q at *
  go_upto_region 17 with (fail)
  have hS : Hid (∀ X, Mod [] W X → X.cell? ⟨q, 6, none⟩ = some (.int .u64 xn) ∧ X.cell? ⟨q, 7, none⟩ = some (.string xr.key) ∧ X.cell? ⟨q, 11, none⟩ = some (.string xv)) := fun X hX => ⟨hX.cellSome c6 (by simp), hX.cellSome c7 (by simp), hX.cellSome c11 (by simp)⟩
  have hS0 := hS.out _ (Mod.refl [] W).drew
  clear c0 c1 c2 c3 c4 c5 c6 c7 c8 c9 c10 c11
  have T1 := hid (fun z g => two_boxes2 W #[.string (shortB xr.key), .string ⟨#[]⟩] (ocC ⟨xn, 99, 0, z, shortB xv, some ⟨g, 0, none⟩, 1, 1⟩) 86 54)
  have T2 := hid (fun z g => two_boxes2 W (ocC ⟨xn, 99, 0, z, shortB xv, some ⟨g, 0, none⟩, 1, 1⟩) #[.string (shortB xr.key), .string ⟨#[]⟩] 54 86)
  go_cut [13] from 89 to 104 (fun s wx => ∃ (z : Bool) (p g : Nat), s = .pointer (some ⟨p, 0, none⟩) ∧ Hid (Mod [] W wx) ∧ Hid (Blk wx p (ocC ⟨xn, 99, 0, z, shortB xv, some ⟨g, 0, none⟩, 1, 1⟩) 54) ∧ Hid (Blk wx g #[.string (shortB xr.key), .string ⟨#[]⟩] 86) ∧ p ≠ g ∧ W.heap.size ≤ p ∧ W.heap.size ≤ g)
  case first =>
    go_region_held3 (fun X => Mod [] W X ∧ X.cell? ⟨q, 6, none⟩ = some (.int .u64 xn) ∧ X.cell? ⟨q, 7, none⟩ = some (.string xr.key) ∧ X.cell? ⟨q, 11, none⟩ = some (.string xv))
      (first
        | exact ⟨(Mod.refl [] W).drew, hS0⟩
        | assumption
        | (refine (fun h => ⟨h, hS.out _ h⟩) ?_; (repeat (first | exact Mod.refl [] W | refine Mod.drew ?_ | refine Mod.alloc ?_ _)); done)
        | fail)
      (first
        | (go_at_call 15; (with_reducible refine (short_c xv _ k2).mono ?_); rintro e w' ⟨rfl, rfl⟩)
        | (go_at_call 15; (with_reducible refine (short_c xr.key _ k1).mono ?_); rintro e w' ⟨rfl, rfl⟩)
        | fail)
    all_goals
      go_wp2
      go_meet
      first
        | exact ⟨_, _, _, rfl, (T2.out _ _).1, (T2.out _ _).2.1, (T2.out _ _).2.2, Nat.ne_of_lt (Nat.lt_succ_self _), Nat.le_refl _, Nat.le_succ _⟩
        | exact ⟨_, _, _, rfl, (T1.out _ _).1, (T1.out _ _).2.2, (T1.out _ _).2.1, Nat.ne_of_gt (Nat.lt_succ_self _), Nat.le_succ _, Nat.le_refl _⟩
  case rest =>
    obtain ⟨z, p, g, rfl, hm, hp, hg, hpg, h1, h2⟩ := hcut
    clear T1 T2 hS hS0
    obtain ⟨o, ho⟩ : ∃ o : Oc, o = ⟨xn, 99, 0, z, shortB xv, some ⟨g, 0, none⟩, 1, 1⟩ := ⟨_, rfl⟩
    rw [← ho] at hp
    have hPS : Hid (∀ X, Blk X g (#[.string (shortB xr.key), .string ⟨#[]⟩] : Array Value) 86 → ∃ ps, Lx 2 prC X (.slice (answerO t o).pa (answerO t o).pl (answerO t o).pc) ps) := by
      intro X hX
      by_cases hc : t.under = true ∧ t.state ≠ 2 ∧ t.state ≠ 3
      · rw [show answerO t o = toldO t o by simp only [answerO, if_pos hc]]
        refine ⟨[⟨shortB xr.key, ⟨#[]⟩⟩], ?_⟩
        rw [ho]
        exact one_pr hX
      · rw [show answerO t o = oc0 by simp only [answerO, if_neg hc]]
        exact ⟨[], nil_pr X⟩
    clear ho
    have hT1 := HT.out.two hp.out hg.out hpg hm.out h1 h2
    have HT1 := hid hT1
    obtain ⟨⟨p0, p1, p2, p3, p4, p5⟩, _⟩ := hp.out.oc
    have hpl := hp.out.lt
    clear hT1 hp hg hm h1 h2 HT hql k1 k2
    -- box o, box pair, box act, tx, rx
    have HTa := hid (HT1.out.ent (((ent_drop _ _).under _).under _))
    clear HT1
    go_wp2_with fail
    refine (HTa.out.swap2.swap.call (fun L hL => answer_c wc b t o now L hL)).mono ?_
    obtain ⟨ao, hao⟩ : ∃ ao, answerO t o = ao := ⟨_, rfl⟩
    rw [hao] at hPS ⊢
    rintro e w2 ⟨rfl, hT2⟩
    have hT3 := hT2.box (ocC ao) 54
    have HT3 := hid hT3
    clear p0 p1 p2 p3 p4 p5 hpl HTa hT2
    go_upto_region 19 with (fail)
    obtain ⟨⟨p0, p1, p2, p3, p4, p5⟩, _⟩ := hT3.drop.swap.get.oc
    have hpl := hT3.drop.swap.get.lt
    clear hT3
    generalize w2.alloc (.cells (ocC ao) 54) = w3 at *
    generalize w2.heap.size = q14 at *
    go_wp2_with fail
    refine (HT3.out.pull4.call (fun L hL => ranswer_c w3 b' t o now L hL)).mono ?_
    rw [hao]
    rintro e w4 ⟨rfl, hT4⟩
    have hT5 := hT4.box (ocC ao) 54
    have HT5 := hid hT5
    clear p0 p1 p2 p3 p4 p5 hpl HT3 hT4
    go_upto_region 20 with (fail)
    obtain ⟨⟨p0, p1, p2, p3, p4, p5⟩, _⟩ := hT5.get.oc
    have hpl := hT5.get.lt
    obtain ⟨⟨r0, r1, r2, r3, r4, r5⟩, _⟩ := hT5.swap2.swap.get.oc
    have hrl := hT5.swap2.swap.get.lt
    obtain ⟨ps, hps⟩ := hPS.out _ hT5.drop.drop.drop.drop.drop.get
    have HP := hid hps
    clear hT5 hps hPS hao
    generalize w4.alloc (.cells (ocC ao) 54) = w5 at *
    generalize w4.heap.size = q16 at *
    go_wp2_with fail
    refine (outcomes_c w5 ao ps HP.out).mono ?_
    rintro e w6 ⟨rfl, hm6⟩
    have HT6 := hid (HT5.out.mod hm6).drop.drop2.swap.drop3.drop3
    clear hm6 HT5 HP
    go_wp2
    go_ret
    exact ⟨by first | rfl | simp, HT6.out⟩

set_option maxRecDepth 100000 in
set_option maxHeartbeats 1000000 in
theorem do_answer6 (h : Top w0 (star (txR b t) (star (rxR b' t) U)) w) (k1 : xr.key.size ≤ 9223372036854775807) (k2 : xv.size ≤ 9223372036854775807) :
    Calls Try.prog 23 #[.pointer (some ⟨b, 0, none⟩), .pointer (some ⟨b', 0, none⟩), acV ⟨6, xc, xn, xr, xv⟩, .int .u64 now] w fun e w' => e = .returned (.bool true) ∧ Top w0 (star (txR b (answerT t now)) (star (rxR b' (answerT t now)) U)) w' := by
  have hT := h.box (acA ⟨6, xc, xn, xr, xv⟩) 34
  obtain ⟨⟨c0, c1, c2, c3, c4, c5⟩, ⟨c6, c7, c8, c9, c10, c11⟩, hql⟩ := hT.get.ac
  simp only at c0 c1 c2 c3 c4 c5 c6 c7 c8 c9 c10 c11
  have HT := hid hT
  clear h hT
  go_enter Try.func23, Try.ntmps23
  go_upto_region 1 with (fail)
  generalize w.alloc (.cells (acA ⟨6, xc, xn, xr, xv⟩) 34) = W at *
  generalize w.heap.size = q at *
  go_upto_region 17 with (fail)
  have hS : Hid (∀ X, Mod [] W X → X.cell? ⟨q, 6, none⟩ = some (.int .u64 xn) ∧ X.cell? ⟨q, 7, none⟩ = some (.string xr.key) ∧ X.cell? ⟨q, 11, none⟩ = some (.string xv)) := fun X hX => ⟨hX.cellSome c6 (by simp), hX.cellSome c7 (by simp), hX.cellSome c11 (by simp)⟩
  have hS0 := hS.out _ (Mod.refl [] W).drew
  clear c0 c1 c2 c3 c4 c5 c6 c7 c8 c9 c10 c11
  have T1 := hid (fun z g => two_boxes2 W #[.string (shortB xr.key), .string ⟨#[]⟩] (ocC ⟨xn, 99, 0, z, shortB xv, some ⟨g, 0, none⟩, 1, 1⟩) 86 54)
  have T2 := hid (fun z g => two_boxes2 W (ocC ⟨xn, 99, 0, z, shortB xv, some ⟨g, 0, none⟩, 1, 1⟩) #[.string (shortB xr.key), .string ⟨#[]⟩] 54 86)
  go_cut [13] from 89 to 104 (fun s wx => ∃ (z : Bool) (p g : Nat), s = .pointer (some ⟨p, 0, none⟩) ∧ Hid (Mod [] W wx) ∧ Hid (Blk wx p (ocC ⟨xn, 99, 0, z, shortB xv, some ⟨g, 0, none⟩, 1, 1⟩) 54) ∧ Hid (Blk wx g #[.string (shortB xr.key), .string ⟨#[]⟩] 86) ∧ p ≠ g ∧ W.heap.size ≤ p ∧ W.heap.size ≤ g)
  case first =>
    go_region_held3 (fun X => Mod [] W X ∧ X.cell? ⟨q, 6, none⟩ = some (.int .u64 xn) ∧ X.cell? ⟨q, 7, none⟩ = some (.string xr.key) ∧ X.cell? ⟨q, 11, none⟩ = some (.string xv))
      (first
        | exact ⟨(Mod.refl [] W).drew, hS0⟩
        | assumption
        | (refine (fun h => ⟨h, hS.out _ h⟩) ?_; (repeat (first | exact Mod.refl [] W | refine Mod.drew ?_ | refine Mod.alloc ?_ _)); done)
        | fail)
      (first
        | (go_at_call 15; (with_reducible refine (short_c xv _ k2).mono ?_); rintro e w' ⟨rfl, rfl⟩)
        | (go_at_call 15; (with_reducible refine (short_c xr.key _ k1).mono ?_); rintro e w' ⟨rfl, rfl⟩)
        | fail)
    all_goals
      go_wp2
      go_meet
      first
        | exact ⟨_, _, _, rfl, (T2.out _ _).1, (T2.out _ _).2.1, (T2.out _ _).2.2, Nat.ne_of_lt (Nat.lt_succ_self _), Nat.le_refl _, Nat.le_succ _⟩
        | exact ⟨_, _, _, rfl, (T1.out _ _).1, (T1.out _ _).2.2, (T1.out _ _).2.1, Nat.ne_of_gt (Nat.lt_succ_self _), Nat.le_succ _, Nat.le_refl _⟩
  case rest =>
    obtain ⟨z, p, g, rfl, hm, hp, hg, hpg, h1, h2⟩ := hcut
    clear T1 T2 hS hS0
    obtain ⟨o, ho⟩ : ∃ o : Oc, o = ⟨xn, 99, 0, z, shortB xv, some ⟨g, 0, none⟩, 1, 1⟩ := ⟨_, rfl⟩
    rw [← ho] at hp
    have hPS : Hid (∀ X, Blk X g (#[.string (shortB xr.key), .string ⟨#[]⟩] : Array Value) 86 → ∃ ps, Lx 2 prC X (.slice (answerO t o).pa (answerO t o).pl (answerO t o).pc) ps) := by
      intro X hX
      by_cases hc : t.under = true ∧ t.state ≠ 2 ∧ t.state ≠ 3
      · rw [show answerO t o = toldO t o by simp only [answerO, if_pos hc]]
        refine ⟨[⟨shortB xr.key, ⟨#[]⟩⟩], ?_⟩
        rw [ho]
        exact one_pr hX
      · rw [show answerO t o = oc0 by simp only [answerO, if_neg hc]]
        exact ⟨[], nil_pr X⟩
    clear ho
    have hT1 := HT.out.two hp.out hg.out hpg hm.out h1 h2
    have HT1 := hid hT1
    obtain ⟨⟨p0, p1, p2, p3, p4, p5⟩, _⟩ := hp.out.oc
    have hpl := hp.out.lt
    clear hT1 hp hg hm h1 h2 HT hql k1 k2
    -- box o, box pair, box act, tx, rx
    have HTa := hid (HT1.out.ent (((ent_drop _ _).under _).under _))
    clear HT1
    go_wp2_with fail
    refine (HTa.out.swap2.swap.call (fun L hL => answer_c wc b t o now L hL)).mono ?_
    obtain ⟨ao, hao⟩ : ∃ ao, answerO t o = ao := ⟨_, rfl⟩
    rw [hao] at hPS ⊢
    rintro e w2 ⟨rfl, hT2⟩
    have hT3 := hT2.box (ocC ao) 54
    have HT3 := hid hT3
    clear p0 p1 p2 p3 p4 p5 hpl HTa hT2
    go_upto_region 19 with (fail)
    obtain ⟨⟨p0, p1, p2, p3, p4, p5⟩, _⟩ := hT3.drop.swap.get.oc
    have hpl := hT3.drop.swap.get.lt
    clear hT3
    generalize w2.alloc (.cells (ocC ao) 54) = w3 at *
    generalize w2.heap.size = q14 at *
    go_wp2_with fail
    refine (HT3.out.pull4.call (fun L hL => ranswer_c w3 b' t o now L hL)).mono ?_
    rw [hao]
    rintro e w4 ⟨rfl, hT4⟩
    have hT5 := hT4.box (ocC ao) 54
    have HT5 := hid hT5
    clear p0 p1 p2 p3 p4 p5 hpl HT3 hT4
    go_upto_region 20 with (fail)
    obtain ⟨⟨p0, p1, p2, p3, p4, p5⟩, _⟩ := hT5.get.oc
    have hpl := hT5.get.lt
    obtain ⟨⟨r0, r1, r2, r3, r4, r5⟩, _⟩ := hT5.swap2.swap.get.oc
    have hrl := hT5.swap2.swap.get.lt
    obtain ⟨ps, hps⟩ := hPS.out _ hT5.drop.drop.drop.drop.drop.get
    have HP := hid hps
    clear hT5 hps hPS hao
    generalize w4.alloc (.cells (ocC ao) 54) = w5 at *
    generalize w4.heap.size = q16 at *
    go_wp2_with fail
    refine (outcomes_c w5 ao ps HP.out).mono ?_
    rintro e w6 ⟨rfl, hm6⟩
    have HT6 := hid (HT5.out.mod hm6).drop.drop2.swap.drop3.drop3
    clear hm6 HT5 HP
    go_wp2
    go_ret
    exact ⟨by first | rfl | simp, HT6.out⟩

end
end Go.Proofs.Ytocfeeecgpklnaa
