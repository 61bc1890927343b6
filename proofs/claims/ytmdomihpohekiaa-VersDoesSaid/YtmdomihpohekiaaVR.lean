/- The reference: Put. -/
import Derived.Test.YtmdomihpohekiaaVQ
namespace Go.Proofs.Ytmdomihpohekiaa
set_option linter.unusedVariables false
set_option linter.unusedSimpArgs false
set_option linter.unusedSectionVars false
open Go.RowKit

theorem Lv.take {w : World} {a : Option Addr} {n cap m : Nat} {l : List Vr} (h : Lv w (.slice a n cap) l) (hm : m ≤ n) (c' : Nat) : Lv w (.slice a m c') (l.take m) := by
  obtain ⟨a', cap', hv, h1, h2⟩ := h
  simp only [Value.slice.injEq] at hv
  obtain ⟨rfl, rfl, rfl⟩ := hv
  have hl : (l.take m).length = m := by rw [List.length_take]; omega
  refine ⟨a, c', by rw [hl], ?_, by omega⟩
  rcases h1 with h0 | ⟨b', off', rfl, hc⟩
  · subst h0; exact Or.inl (by simp)
  · refine Or.inr ⟨b', off', rfl, fun i x hx j v hj => ?_⟩
    rw [List.getElem?_take] at hx
    split at hx
    · exact hc i x hx j v hj
    · cases hx

/-- What Put does, by the last one's time. -/
theorem put_three {l : List Vr} {v : Vr} (h : mayB l = true) (hb : badB l v = false) (hs : ¬ 24 < v.vl.size) :
    (l.length = 0 ∧ putE l v = 0 ∧ putL l v = l.take 0 ++ [v]) ∨
    ∃ (m : Nat) (x : Vr), l.length = m + 1 ∧ l[m]? = some x ∧ ((v.ts < x.ts ∧ putE l v = 14) ∨ (x.ts = v.ts ∧ putE l v = 0 ∧ putL l v = l.take m ++ [v]) ∨ (x.ts < v.ts ∧ putE l v = 0 ∧ putL l v = l.take (m + 1) ++ [v])) := by
  have hE : putE l v = if (newB l).isSome ∧ v.ts < ((newB l).getD v0).ts then 14 else 0 := by
    unfold putE; rw [hb, if_neg hs]; rfl
  rcases Nat.eq_zero_or_pos l.length with h0 | h0
  · left
    have := List.eq_nil_of_length_eq_zero h0
    subst this
    have e : putE [] v = 0 := by rw [hE, newB_nil, if_neg (by simp)]
    refine ⟨rfl, e, ?_⟩
    unfold putL
    rw [if_pos e]
    rfl
  · right
    obtain ⟨m, x, hn, hx, hm⟩ := newB_some h (by intro e; subst e; simp at h0)
    refine ⟨m, x, hm.symm, hx, ?_⟩
    rw [hn] at hE
    simp only [Option.isSome_some, Option.getD_some, true_and] at hE
    have hd : l = l.take m ++ [x] := by
      have e := (List.take_append_drop m l).symm
      have hml : m < l.length := by omega
      rw [List.drop_eq_getElem_cons hml] at e
      have e2 : l.drop (m + 1) = [] := List.drop_eq_nil_of_le (by omega)
      obtain ⟨_, e3⟩ := List.getElem?_eq_some_iff.1 hx
      rw [e2, e3] at e
      exact e
    have hlt : ∀ y ∈ l.take m, y.ts < x.ts := by
      intro y hy
      obtain ⟨j, hj⟩ := List.getElem?_of_mem hy
      rw [List.getElem?_take] at hj
      split at hj
      · exact may_lt' h (by assumption) hj hx
      · cases hj
    rcases Nat.lt_trichotomy v.ts x.ts with ht | ht | ht
    · exact Or.inl ⟨ht, by rw [hE, if_pos ht]⟩
    · refine Or.inr (Or.inl ⟨ht.symm, by rw [hE, if_neg (by omega)], ?_⟩)
      unfold putL
      rw [if_pos (by rw [hE, if_neg (by omega)])]
      congr 1
      unfold withoutB keepB
      rw [if_pos h]
      conv => lhs; rw [hd]
      rw [List.filter_append]
      have h1 : (l.take m).filter (fun y => !tsP v.ts y) = l.take m := by
        rw [List.filter_eq_self]
        intro y hy
        have := hlt y hy
        simp [tsP]; omega
      rw [h1]
      simp [tsP, ht]
    · refine Or.inr (Or.inr ⟨ht, by rw [hE, if_neg (by omega)], ?_⟩)
      unfold putL
      rw [if_pos (by rw [hE, if_neg (by omega)])]
      congr 1
      unfold withoutB keepB
      rw [if_pos h, hm, List.take_of_length_le (Nat.le_refl _)]
      rw [List.filter_eq_self]
      intro y hy
      rw [hd] at hy
      rcases List.mem_append.1 hy with hy | hy
      · have := hlt y hy
        simp [tsP]; omega
      · simp at hy; subst hy
        simp [tsP]; omega

set_option maxRecDepth 100000 in
set_option maxHeartbeats 8000000 in
theorem rput_c (w : World) (lv : Value) (l : List Vr) (v : Vr) (h : Lv w lv l) (hc : ∃ a cap, lv = .slice a l.length cap ∧ l.length ≤ cap) (hl : l.length ≤ 1000000) (hvs : v.vl.size ≤ 9223372036854775807) :
    Calls Try.prog 15 #[lv, vrV v] w (PutSays w (putL l v) (putE l v)) := by
  have H := hid h
  obtain ⟨a, cap, rfl, _, hlen⟩ := h
  obtain ⟨a', cap', e', hc⟩ := hc
  simp only [Value.slice.injEq, true_and] at e'
  obtain ⟨rfl, rfl⟩ := e'
  have hB := hid (Blk.new w #[.int .u64 v.ts, .int .u64 v.ln, .bool v.dl, .string v.vl, .bool v.ak] 25)
  have hM := hid ((Mod.refl [] w).alloc (.cells #[.int .u64 v.ts, .int .u64 v.ln, .bool v.dl, .string v.vl, .bool v.ak] 25))
  simp only [vrV]
  go_enter Try.func15, Try.ntmps15
  go_wp2_with fail
  refine (rmay_c _ _ l (H.out.mod hM.out)).mono ?_
  rintro e w2 ⟨rfl, hm⟩
  have hM2 := hid (hM.out.tr hm)
  have hB2 := hid (hm.blk hB.out (by simp))
  clear hm hM hB
  obtain ⟨c0, c1, c2, c3, c4, _⟩ := hB2.out.five
  have bl := hB2.out.lt
  have hX : (mayB l = false ∧ badB l v = true) ∨ (mayB l = true ∧ v.dl = true ∧ v.vl.toList.isEmpty = false ∧ badB l v = true) ∨ (mayB l = true ∧ v.dl = false ∧ badB l v = false) ∨ (mayB l = true ∧ v.dl = true ∧ v.vl.toList.isEmpty = true ∧ badB l v = false) := by
    cases h1 : mayB l <;> cases h2 : v.dl <;> cases h3 : v.vl.toList.isEmpty <;> simp [badB, h1, h2, h3]
  rcases hX with ⟨h1, hbad⟩ | ⟨h1, h2, h3, hbad⟩ | ⟨h1, h2, hbad⟩ | ⟨h1, h2, h3, hbad⟩
  · have he : Hid (putE l v = 2) := by show _ = _; simp [putE, hbad]
    have hp : Hid (putL l v = l) := putL_no l v (by rw [he.out]; decide)
    rw [h1]
    clear h1 hbad
    go_wp2_with fail
    refine (rcopied_c _ _ l (H.out.mod hM2.out) hl).mono ?_
    rintro e w3 hs
    have Hs := hid (hs.tr hM2.out)
    obtain ⟨v3, L3, rfl, _⟩ := hs
    go_wp2
    go_ret2
    rw [he.out, hp.out]
    obtain ⟨v4, L4, h1, h2, h3, h4⟩ := Hs.out
    cases h1
    exact ⟨_, L4, rfl, h2, h3, h4⟩
  · have he : Hid (putE l v = 2) := by show _ = _; simp [putE, hbad]
    have hp : Hid (putL l v = l) := putL_no l v (by rw [he.out]; decide)
    rw [h1]
    rw [h2] at c2
    clear h1 h2 hbad
    go_wp2_with fail
    refine (rcopied_c _ _ l (H.out.mod hM2.out) hl).mono ?_
    rintro e w3 hs
    have Hs := hid (hs.tr hM2.out)
    obtain ⟨v3, L3, rfl, _⟩ := hs
    go_wp2
    go_ret2
    rw [he.out, hp.out]
    obtain ⟨v4, L4, h1, h2, h3, h4⟩ := Hs.out
    cases h1
    exact ⟨_, L4, rfl, h2, h3, h4⟩
  all_goals
    rw [h1]
    rw [h2] at c2
    have Hm := hid h1
    have Hb := hid hbad
    have H2 := hid h2
    clear h1 h2 hbad
    by_cases hsz : 24 < v.vl.size
    · have he : Hid (putE l v = 3) := by show _ = _; unfold putE; rw [Hb.out, if_neg (by decide), if_pos hsz]
      have hp : Hid (putL l v = l) := putL_no l v (by rw [he.out]; decide)
      go_wp2_with fail
      refine (rcopied_c _ _ l (H.out.mod hM2.out) hl).mono ?_
      rintro e w3 hs
      have Hs := hid (hs.tr hM2.out)
      obtain ⟨v3, L3, rfl, _⟩ := hs
      go_wp2
      go_ret2
      rw [he.out, hp.out]
      obtain ⟨v4, L4, h1, h2, h3, h4⟩ := Hs.out
      cases h1
      exact ⟨_, L4, rfl, h2, h3, h4⟩
    · rcases put_three Hm.out Hb.out hsz with ⟨h0, he, hp⟩ | ⟨m, x, h0, hx, ⟨ht, he⟩ | ⟨ht, he, hp⟩ | ⟨ht, he, hp⟩⟩
      · have He := hid he
        have Hp := hid hp
        rw [h0] at H hlen ⊢
        clear he hp
        go_upto_region 6 with (fail)
        go_quiet (fail)
        revert nq; intro nqa
        go_upto_region 8 with (fail)
        go_quiet (fail)
        revert nq; intro nqb
        go_upto_region 10 with (fail)
        obtain ⟨W, hW⟩ : ∃ W, W = (w2.drewN nqa).drewN nqb := ⟨_, rfl⟩
        rw [← hW]
        have hMW : Hid (Mod [] w2 W) := by show Mod _ _ _; rw [hW]; exact ((Mod.refl [] w2).drewN nqa).drewN nqb
        clear hW c0 c1 c2 c3 c4
        have hBW := hid (hMW.out.blk hB2.out (by simp))
        have hS : Hid (∀ X, Mod [] W X → X.cell? ⟨w.heap.size, 0, none⟩ = some (.int .u64 v.ts) ∧ X.cell? ⟨w.heap.size, 1, none⟩ = some (.int .u64 v.ln) ∧ X.cell? ⟨w.heap.size, 2, none⟩ = some (.bool v.dl) ∧ X.cell? ⟨w.heap.size, 3, none⟩ = some (.string v.vl) ∧ X.cell? ⟨w.heap.size, 4, none⟩ = some (.bool v.ak)) := by
          intro X hX
          obtain ⟨t0, t1, t2, t3, t4, _⟩ := (hX.blk hBW.out (by simp)).five
          exact ⟨t0, t1, t2, t3, t4⟩
        obtain ⟨lt, hlt0⟩ : ∃ t, t = l.take 0 := ⟨_, rfl⟩
        have hLt := hid hlt0
        clear hlt0
        have hm1 : Hid (Mod [] W W.drew) := (Mod.refl [] W).drew
        have hm2 : Hid (Mod [] W (W.alloc (.cells #[.int .u64 v.ts, .int .u64 v.ln, .bool v.dl, .string v.vl, .bool v.ak] 25)).drew) := ((Mod.refl [] W).alloc _).drew
        have hv2 : Hid (Blk (W.alloc (.cells #[.int .u64 v.ts, .int .u64 v.ln, .bool v.dl, .string v.vl, .bool v.ak] 25)).drew W.heap.size #[.int .u64 v.ts, .int .u64 v.ln, .bool v.dl, .string v.vl, .bool v.ak] 25) := Blk.new W _ _
        have hLT : Hid (∀ (X : World) (c' : Nat), Mod [] W X → Lv X (.slice a 0 c') lt) := fun X c' hX => by rw [hLt.out]; exact (((H.out.mod hM2.out).mod hMW.out).mod hX).take (show 0 ≤ 0 by omega) c'
        have hwl : lt.length ≤ l.length := by rw [hLt.out, List.length_take]; omega
        have hone : ∀ u ∈ vsC [v], u.oneCell' = true := vsC_one _
        go_region_held3 (fun X => Mod [] W X ∧ X.cell? ⟨w.heap.size, 0, none⟩ = some (.int .u64 v.ts) ∧ X.cell? ⟨w.heap.size, 1, none⟩ = some (.int .u64 v.ln) ∧ X.cell? ⟨w.heap.size, 2, none⟩ = some (.bool v.dl) ∧ X.cell? ⟨w.heap.size, 3, none⟩ = some (.string v.vl) ∧ X.cell? ⟨w.heap.size, 4, none⟩ = some (.bool v.ak))
          (first
            | assumption
            | exact ⟨hm5.out, hS.out _ hm5.out⟩
            | (refine (fun h => ⟨h, hS.out _ h⟩) ?_; (repeat (first | exact hmw.out | refine Mod.drew ?_ | refine Mod.alloc ?_ _)); done)
            | (refine (fun h => ⟨h, hS.out _ h⟩) ?_; (repeat (first | exact Mod.refl [] W | refine Mod.drew ?_ | refine Mod.alloc ?_ _)); done)
            | fail)
          (first
            | (go_at_call 38; (with_reducible refine (rcopied_c _ _ lt (hLT.out _ _ hm1.out) (Nat.le_trans hwl hl)).mono ?_); rintro e w3 ⟨v3, L3, rfl, ho, hm, hf⟩; have hmw : Hid (Mod [] W w3) := hm1.out.tr hm; have hfw : Hid (∀ k ∈ L3, W.heap.size ≤ k) := fun k hk => Nat.le_trans hm1.out.size (hf k hk); clear hm hf; obtain ⟨a3, cap3, hv3, _⟩ := ho.val; subst hv3; have Ho3 := hid ho; clear ho)
            | (go_at_call 38; (with_reducible refine (rcopied_c _ _ lt (hLT.out _ _ hm2.out) (Nat.le_trans hwl hl)).mono ?_); rintro e w3 ⟨v3, L3, rfl, ho, hm, hf⟩; have hmw : Hid (Mod [] W w3) := hm2.out.tr hm; have hfw : Hid (∀ k ∈ L3, W.heap.size ≤ k) := fun k hk => Nat.le_trans hm2.out.size (hf k hk); have hvB := hid (hm.blk hv2.out (by simp)); clear hm hf; obtain ⟨a3, cap3, hv3, _⟩ := ho.val; subst hv3; have Ho3 := hid ho; clear ho)
            | (refine step_append_rdl rfl (.tmp 62) (.tmp 64) 22 25 rfl Try.underlying22 elem_ver rfl (by decide) rfl Ho3.out rfl (vsC_one_rdl _ _ v hvB.out) hone (by omega) (by omega) ?_; intro v5 w5 L5 g1 g2 g3; have hm5 : Hid (Mod [] W w5) := hmw.out.fresh g2.out hfw.out; have hf5 : Hid (∀ k ∈ L5, W.heap.size ≤ k) := fun k hk => (g3.out k hk).elim (hfw.out k) (Nat.le_trans hmw.out.size); clear g2 g3)
            | (refine step_append_rdl rfl (.tmp 62) (.tmp 64) 22 25 rfl Try.underlying22 elem_ver rfl (by decide) rfl (Ho3.out.mod ((Mod.refl [] _).alloc _) (by simp)) rfl (vsC_one_rdl _ _ v (Blk.new w3 _ _)) hone (by omega) (by omega) ?_; intro v5 w5 L5 g1 g2 g3; have hm5 : Hid (Mod [] W w5) := (hmw.out.alloc _).fresh g2.out hfw.out; have hf5 : Hid (∀ k ∈ L5, W.heap.size ≤ k) := fun k hk => (g3.out k hk).elim (hfw.out k) (Nat.le_trans (hmw.out.alloc _).size); clear g2 g3)
            | fail)
        all_goals
          have G1 := hid g1.out
          obtain ⟨a5, cap5, hv5, _⟩ := g1.out.val
          subst hv5
          clear g1 hS hone hwl
          go_wp2
          go_ret2
          rw [He.out]
          refine ⟨_, L5, rfl, ?_, (hM2.out.tr hMW.out).tr hm5.out, fun k hk => Nat.le_trans (hM2.out.tr hMW.out).size (hf5.out k hk)⟩
          rw [Hp.out, ← hLt.out, vsC_append, List.length_append]
          exact G1.out
      · have he := hid he
        have hp := hid (putL_no l v (by rw [he.out]; decide))
        obtain ⟨b, off, rfl, d0, d1, d2, d3, d4⟩ := (H.out.mod hM2.out).at hx
        have Hx := hid hx
        have hw : IntKind.i64.wrap (((m + 1 : Nat) : Int) - 1) = (m : Int) := by rw [IntWalk.i64_in _ ⟨by omega, by omega⟩]; omega
        have hl2 := hid h0
        rw [h0] at H hlen ⊢
        clear hx
        go_upto_region 6 with (fail)
        go_quiet (fail)
        skip
        have hM3 := hid (hM2.out.drewN nq)
        go_wp2_with fail
        refine (rcopied_c _ _ l (by have := H.out.mod hM3.out; exact this) hl).mono ?_
        rintro e w3 hs
        have Hs := hid (hs.tr hM3.out)
        obtain ⟨v3, L3, rfl, _⟩ := hs
        go_wp2
        go_ret2
        rw [he.out, hp.out]
        obtain ⟨v4, L4, h1, h2, h3, h4⟩ := Hs.out
        cases h1
        exact ⟨_, L4, rfl, h2, h3, h4⟩
      · have He := hid he
        have Hp := hid hp
        obtain ⟨b, off, rfl, d0, d1, d2, d3, d4⟩ := (H.out.mod hM2.out).at hx
        have Hx := hid hx
        have hw : IntKind.i64.wrap (((m + 1 : Nat) : Int) - 1) = (m : Int) := by rw [IntWalk.i64_in _ ⟨by omega, by omega⟩]; omega
        have hs1 : (0 : Int) ≤ (m : Int) := by omega
        have hs2 : (m : Int) ≤ (m : Int) + 1 := by omega
        have hs3 : (m : Int) + 1 ≤ (cap : Int) := by omega
        have hs4 : (m : Int) ≤ (cap : Int) := by omega
        have hs5 : (0 : Int) ≤ (m : Int) + 1 := by omega
        have hE : ((x.ts : Int) == (v.ts : Int)) = true := by simp; omega
        have hE2 : ¬ v.ts < x.ts := by omega
        rw [h0] at H hlen ⊢
        clear he hp hx ht
        go_upto_region 6 with (fail)
        go_quiet (fail)
        revert nq; intro nqa
        go_upto_region 8 with (fail)
        go_quiet (fail)
        revert nq; intro nqb
        go_upto_region 10 with (fail)
        obtain ⟨W, hW⟩ : ∃ W, W = w2.drewN (nqa + nqb) := ⟨_, rfl⟩
        rw [← hW]
        have hMW : Hid (Mod [] w2 W) := by show Mod _ _ _; rw [hW]; exact (Mod.refl [] w2).drewN (nqa + nqb)
        clear hW c0 c1 c2 c3 c4
        have hBW := hid (hMW.out.blk hB2.out (by simp))
        have hS : Hid (∀ X, Mod [] W X → X.cell? ⟨w.heap.size, 0, none⟩ = some (.int .u64 v.ts) ∧ X.cell? ⟨w.heap.size, 1, none⟩ = some (.int .u64 v.ln) ∧ X.cell? ⟨w.heap.size, 2, none⟩ = some (.bool v.dl) ∧ X.cell? ⟨w.heap.size, 3, none⟩ = some (.string v.vl) ∧ X.cell? ⟨w.heap.size, 4, none⟩ = some (.bool v.ak)) := by
          intro X hX
          obtain ⟨t0, t1, t2, t3, t4, _⟩ := (hX.blk hBW.out (by simp)).five
          exact ⟨t0, t1, t2, t3, t4⟩
        obtain ⟨lt, hlt0⟩ : ∃ t, t = l.take m := ⟨_, rfl⟩
        have hLt := hid hlt0
        clear hlt0
        have hm1 : Hid (Mod [] W W.drew) := (Mod.refl [] W).drew
        have hm2 : Hid (Mod [] W (W.alloc (.cells #[.int .u64 v.ts, .int .u64 v.ln, .bool v.dl, .string v.vl, .bool v.ak] 25)).drew) := ((Mod.refl [] W).alloc _).drew
        have hv2 : Hid (Blk (W.alloc (.cells #[.int .u64 v.ts, .int .u64 v.ln, .bool v.dl, .string v.vl, .bool v.ak] 25)).drew W.heap.size #[.int .u64 v.ts, .int .u64 v.ln, .bool v.dl, .string v.vl, .bool v.ak] 25) := Blk.new W _ _
        have hLT : Hid (∀ (X : World) (c' : Nat), Mod [] W X → Lv X (.slice (some ⟨b, off, none⟩) m c') lt) := fun X c' hX => by rw [hLt.out]; exact (((H.out.mod hM2.out).mod hMW.out).mod hX).take (show m ≤ (m + 1) by omega) c'
        have hwl : lt.length ≤ l.length := by rw [hLt.out, List.length_take]; omega
        have hone : ∀ u ∈ vsC [v], u.oneCell' = true := vsC_one _
        go_region_held3 (fun X => Mod [] W X ∧ X.cell? ⟨w.heap.size, 0, none⟩ = some (.int .u64 v.ts) ∧ X.cell? ⟨w.heap.size, 1, none⟩ = some (.int .u64 v.ln) ∧ X.cell? ⟨w.heap.size, 2, none⟩ = some (.bool v.dl) ∧ X.cell? ⟨w.heap.size, 3, none⟩ = some (.string v.vl) ∧ X.cell? ⟨w.heap.size, 4, none⟩ = some (.bool v.ak))
          (first
            | assumption
            | exact ⟨hm5.out, hS.out _ hm5.out⟩
            | (refine (fun h => ⟨h, hS.out _ h⟩) ?_; (repeat (first | exact hmw.out | refine Mod.drew ?_ | refine Mod.alloc ?_ _)); done)
            | (refine (fun h => ⟨h, hS.out _ h⟩) ?_; (repeat (first | exact Mod.refl [] W | refine Mod.drew ?_ | refine Mod.alloc ?_ _)); done)
            | fail)
          (first
            | (go_at_call 38; (with_reducible refine (rcopied_c _ _ lt (hLT.out _ _ hm1.out) (Nat.le_trans hwl hl)).mono ?_); rintro e w3 ⟨v3, L3, rfl, ho, hm, hf⟩; have hmw : Hid (Mod [] W w3) := hm1.out.tr hm; have hfw : Hid (∀ k ∈ L3, W.heap.size ≤ k) := fun k hk => Nat.le_trans hm1.out.size (hf k hk); clear hm hf; obtain ⟨a3, cap3, hv3, _⟩ := ho.val; subst hv3; have Ho3 := hid ho; clear ho)
            | (go_at_call 38; (with_reducible refine (rcopied_c _ _ lt (hLT.out _ _ hm2.out) (Nat.le_trans hwl hl)).mono ?_); rintro e w3 ⟨v3, L3, rfl, ho, hm, hf⟩; have hmw : Hid (Mod [] W w3) := hm2.out.tr hm; have hfw : Hid (∀ k ∈ L3, W.heap.size ≤ k) := fun k hk => Nat.le_trans hm2.out.size (hf k hk); have hvB := hid (hm.blk hv2.out (by simp)); clear hm hf; obtain ⟨a3, cap3, hv3, _⟩ := ho.val; subst hv3; have Ho3 := hid ho; clear ho)
            | (refine step_append_rdl rfl (.tmp 62) (.tmp 64) 22 25 rfl Try.underlying22 elem_ver rfl (by decide) rfl Ho3.out rfl (vsC_one_rdl _ _ v hvB.out) hone (by omega) (by omega) ?_; intro v5 w5 L5 g1 g2 g3; have hm5 : Hid (Mod [] W w5) := hmw.out.fresh g2.out hfw.out; have hf5 : Hid (∀ k ∈ L5, W.heap.size ≤ k) := fun k hk => (g3.out k hk).elim (hfw.out k) (Nat.le_trans hmw.out.size); clear g2 g3)
            | (refine step_append_rdl rfl (.tmp 62) (.tmp 64) 22 25 rfl Try.underlying22 elem_ver rfl (by decide) rfl (Ho3.out.mod ((Mod.refl [] _).alloc _) (by simp)) rfl (vsC_one_rdl _ _ v (Blk.new w3 _ _)) hone (by omega) (by omega) ?_; intro v5 w5 L5 g1 g2 g3; have hm5 : Hid (Mod [] W w5) := (hmw.out.alloc _).fresh g2.out hfw.out; have hf5 : Hid (∀ k ∈ L5, W.heap.size ≤ k) := fun k hk => (g3.out k hk).elim (hfw.out k) (Nat.le_trans (hmw.out.alloc _).size); clear g2 g3)
            | fail)
        all_goals
          have G1 := hid g1.out
          obtain ⟨a5, cap5, hv5, _⟩ := g1.out.val
          subst hv5
          clear g1 hS hone hwl
          go_wp2
          go_ret2
          rw [He.out]
          refine ⟨_, L5, rfl, ?_, (hM2.out.tr hMW.out).tr hm5.out, fun k hk => Nat.le_trans (hM2.out.tr hMW.out).size (hf5.out k hk)⟩
          rw [Hp.out, ← hLt.out, vsC_append, List.length_append]
          exact G1.out
      · have He := hid he
        have Hp := hid hp
        obtain ⟨b, off, rfl, d0, d1, d2, d3, d4⟩ := (H.out.mod hM2.out).at hx
        have Hx := hid hx
        have hw : IntKind.i64.wrap (((m + 1 : Nat) : Int) - 1) = (m : Int) := by rw [IntWalk.i64_in _ ⟨by omega, by omega⟩]; omega
        have hs1 : (0 : Int) ≤ (m : Int) := by omega
        have hs2 : (m : Int) ≤ (m : Int) + 1 := by omega
        have hs3 : (m : Int) + 1 ≤ (cap : Int) := by omega
        have hs4 : (m : Int) ≤ (cap : Int) := by omega
        have hs5 : (0 : Int) ≤ (m : Int) + 1 := by omega
        have hE : ((x.ts : Int) == (v.ts : Int)) = false := by simp; omega
        have hE2 : ¬ v.ts < x.ts := by omega
        rw [h0] at H hlen ⊢
        clear he hp hx ht
        go_upto_region 6 with (fail)
        go_quiet (fail)
        revert nq; intro nqa
        go_upto_region 8 with (fail)
        go_quiet (fail)
        revert nq; intro nqb
        go_upto_region 10 with (fail)
        obtain ⟨W, hW⟩ : ∃ W, W = (w2.drewN nqa).drewN nqb := ⟨_, rfl⟩
        rw [← hW]
        have hMW : Hid (Mod [] w2 W) := by show Mod _ _ _; rw [hW]; exact ((Mod.refl [] w2).drewN nqa).drewN nqb
        clear hW c0 c1 c2 c3 c4
        have hBW := hid (hMW.out.blk hB2.out (by simp))
        have hS : Hid (∀ X, Mod [] W X → X.cell? ⟨w.heap.size, 0, none⟩ = some (.int .u64 v.ts) ∧ X.cell? ⟨w.heap.size, 1, none⟩ = some (.int .u64 v.ln) ∧ X.cell? ⟨w.heap.size, 2, none⟩ = some (.bool v.dl) ∧ X.cell? ⟨w.heap.size, 3, none⟩ = some (.string v.vl) ∧ X.cell? ⟨w.heap.size, 4, none⟩ = some (.bool v.ak)) := by
          intro X hX
          obtain ⟨t0, t1, t2, t3, t4, _⟩ := (hX.blk hBW.out (by simp)).five
          exact ⟨t0, t1, t2, t3, t4⟩
        obtain ⟨lt, hlt0⟩ : ∃ t, t = l.take (m + 1) := ⟨_, rfl⟩
        have hLt := hid hlt0
        clear hlt0
        have hm1 : Hid (Mod [] W W.drew) := (Mod.refl [] W).drew
        have hm2 : Hid (Mod [] W (W.alloc (.cells #[.int .u64 v.ts, .int .u64 v.ln, .bool v.dl, .string v.vl, .bool v.ak] 25)).drew) := ((Mod.refl [] W).alloc _).drew
        have hv2 : Hid (Blk (W.alloc (.cells #[.int .u64 v.ts, .int .u64 v.ln, .bool v.dl, .string v.vl, .bool v.ak] 25)).drew W.heap.size #[.int .u64 v.ts, .int .u64 v.ln, .bool v.dl, .string v.vl, .bool v.ak] 25) := Blk.new W _ _
        have hLT : Hid (∀ (X : World) (c' : Nat), Mod [] W X → Lv X (.slice (some ⟨b, off, none⟩) (m + 1) c') lt) := fun X c' hX => by rw [hLt.out]; exact (((H.out.mod hM2.out).mod hMW.out).mod hX).take (show (m + 1) ≤ (m + 1) by omega) c'
        have hwl : lt.length ≤ l.length := by rw [hLt.out, List.length_take]; omega
        have hone : ∀ u ∈ vsC [v], u.oneCell' = true := vsC_one _
        go_region_held3 (fun X => Mod [] W X ∧ X.cell? ⟨w.heap.size, 0, none⟩ = some (.int .u64 v.ts) ∧ X.cell? ⟨w.heap.size, 1, none⟩ = some (.int .u64 v.ln) ∧ X.cell? ⟨w.heap.size, 2, none⟩ = some (.bool v.dl) ∧ X.cell? ⟨w.heap.size, 3, none⟩ = some (.string v.vl) ∧ X.cell? ⟨w.heap.size, 4, none⟩ = some (.bool v.ak))
          (first
            | assumption
            | exact ⟨hm5.out, hS.out _ hm5.out⟩
            | (refine (fun h => ⟨h, hS.out _ h⟩) ?_; (repeat (first | exact hmw.out | refine Mod.drew ?_ | refine Mod.alloc ?_ _)); done)
            | (refine (fun h => ⟨h, hS.out _ h⟩) ?_; (repeat (first | exact Mod.refl [] W | refine Mod.drew ?_ | refine Mod.alloc ?_ _)); done)
            | fail)
          (first
            | (go_at_call 38; (with_reducible refine (rcopied_c _ _ lt (hLT.out _ _ hm1.out) (Nat.le_trans hwl hl)).mono ?_); rintro e w3 ⟨v3, L3, rfl, ho, hm, hf⟩; have hmw : Hid (Mod [] W w3) := hm1.out.tr hm; have hfw : Hid (∀ k ∈ L3, W.heap.size ≤ k) := fun k hk => Nat.le_trans hm1.out.size (hf k hk); clear hm hf; obtain ⟨a3, cap3, hv3, _⟩ := ho.val; subst hv3; have Ho3 := hid ho; clear ho)
            | (go_at_call 38; (with_reducible refine (rcopied_c _ _ lt (hLT.out _ _ hm2.out) (Nat.le_trans hwl hl)).mono ?_); rintro e w3 ⟨v3, L3, rfl, ho, hm, hf⟩; have hmw : Hid (Mod [] W w3) := hm2.out.tr hm; have hfw : Hid (∀ k ∈ L3, W.heap.size ≤ k) := fun k hk => Nat.le_trans hm2.out.size (hf k hk); have hvB := hid (hm.blk hv2.out (by simp)); clear hm hf; obtain ⟨a3, cap3, hv3, _⟩ := ho.val; subst hv3; have Ho3 := hid ho; clear ho)
            | (refine step_append_rdl rfl (.tmp 62) (.tmp 64) 22 25 rfl Try.underlying22 elem_ver rfl (by decide) rfl Ho3.out rfl (vsC_one_rdl _ _ v hvB.out) hone (by omega) (by omega) ?_; intro v5 w5 L5 g1 g2 g3; have hm5 : Hid (Mod [] W w5) := hmw.out.fresh g2.out hfw.out; have hf5 : Hid (∀ k ∈ L5, W.heap.size ≤ k) := fun k hk => (g3.out k hk).elim (hfw.out k) (Nat.le_trans hmw.out.size); clear g2 g3)
            | (refine step_append_rdl rfl (.tmp 62) (.tmp 64) 22 25 rfl Try.underlying22 elem_ver rfl (by decide) rfl (Ho3.out.mod ((Mod.refl [] _).alloc _) (by simp)) rfl (vsC_one_rdl _ _ v (Blk.new w3 _ _)) hone (by omega) (by omega) ?_; intro v5 w5 L5 g1 g2 g3; have hm5 : Hid (Mod [] W w5) := (hmw.out.alloc _).fresh g2.out hfw.out; have hf5 : Hid (∀ k ∈ L5, W.heap.size ≤ k) := fun k hk => (g3.out k hk).elim (hfw.out k) (Nat.le_trans (hmw.out.alloc _).size); clear g2 g3)
            | fail)
        all_goals
          have G1 := hid g1.out
          obtain ⟨a5, cap5, hv5, _⟩ := g1.out.val
          subst hv5
          clear g1 hS hone hwl
          go_wp2
          go_ret2
          rw [He.out]
          refine ⟨_, L5, rfl, ?_, (hM2.out.tr hMW.out).tr hm5.out, fun k hk => Nat.le_trans (hM2.out.tr hMW.out).size (hf5.out k hk)⟩
          rw [Hp.out, ← hLt.out, vsC_append, List.length_append]
          exact G1.out

end Go.Proofs.Ytmdomihpohekiaa
