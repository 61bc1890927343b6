/- Read. -/
import Derived.Test.YtkacjggjmdndaaaSPI
namespace Go.Proofs.Ytkacjggjmdndaaa
set_option linter.unusedVariables false
set_option linter.unusedSimpArgs false
set_option linter.unusedSectionVars false
open Go.RowKit

theorem end_lt {a b : ByteArray} (h : EL a b) : endI a b = -1 := by unfold endI; rw [if_neg (fun e => by rw [e] at h; exact EL_irrefl _ h), if_pos h]
theorem end_ge {a b : ByteArray} (h : ¬ EL a b) : 0 ≤ endI a b := by unfold endI; rw [if_neg h]; split <;> decide
theorem leS_yes {a b : ByteArray} (h : ¬ SL b a) : (Op.bytesLess a.toList b.toList || a.toList == b.toList) = true := by
  rcases SL_tri a b with k | k | k
  · rw [blS_yes k]; rfl
  · rw [(eqS_iff _ _).2 k]; simp
  · exact absurd k h
theorem leS_no {a b : ByteArray} (h : SL b a) : (Op.bytesLess a.toList b.toList || a.toList == b.toList) = false := by
  rw [blS_no (SL_asymm h), eqS_no (fun e => by rw [e] at h; exact SL_irrefl _ h)]; rfl
theorem okR_cases (lo hi : ByteArray) (ts : Nat) :
    (¬ okR lo hi ts ∧ ((hi ≠ mt ∧ ¬ SL lo hi) ∨ (hi = mt ∧ ts = 0) ∨ (hi ≠ mt ∧ SL lo hi ∧ ts = 0))) ∨ (okR lo hi ts ∧ ts ≠ 0 ∧ (hi = mt ∨ (hi ≠ mt ∧ SL lo hi))) := by
  unfold okR
  by_cases h1 : hi = mt <;> by_cases h2 : SL lo hi <;> by_cases h3 : ts = 0 <;> simp [h1, h2, h3]

theorem Says.here {w : World} {L : List Nat} {R : Res} (h : R w L) : Says w L (.tuple #[]) R (.returned (.tuple #[])) w := ⟨rfl, L, h, Mod.refl _ _, fun k hk => Or.inl hk⟩

set_option maxRecDepth 100000 in
set_option maxHeartbeats 1000000 in
theorem read_no (w : World) (b : Nat) (most : Int) (l : List Rg) (lo hi : ByteArray) (ts : Nat) (L : List Nat) (h : spanR b most l w L) (hn : ¬ okR lo hi ts) :
    Calls Try.prog 10 #[.pointer (some ⟨b, 0, none⟩), .string lo, .string hi, .int .u64 ts] w (Says w L (.tuple #[]) (spanR b most l)) := by
  have H := hid h
  clear h
  rcases okR_cases lo hi ts with ⟨_, h⟩ | ⟨h, _⟩
  · rcases h with ⟨h1, h2⟩ | ⟨h1, h2⟩ | ⟨h1, h2, h3⟩
    · have f1 := nmt_list h1
      have f2 := nmt_emp h1
      have f3 := leS_yes h2
      clear h1 h2 hn
      go_enter Try.func10, Try.ntmps10
      go_wp2
      go_end0
      exact Says.here H.out
    · have f1 := (mt_iff hi).1 h1
      have f2 : ((ts : Int) == 0) = true := beq_iff_eq.2 (by omega)
      clear h1 h2 hn
      go_enter Try.func10, Try.ntmps10
      go_wp2
      go_end0
      exact Says.here H.out
    · have f1 := nmt_list h1
      have f2 := nmt_emp h1
      have f3 := leS_no h2
      have f4 : ((ts : Int) == 0) = true := beq_iff_eq.2 (by omega)
      clear h1 h2 h3 hn
      go_enter Try.func10, Try.ntmps10
      go_wp2
      go_end0
      exact Says.here H.out
  · exact absurd h hn

theorem readR_few {most : Int} {l : List Rg} {lo hi : ByteArray} {ts : Nat} (hy : okR lo hi ts) (h : ((insR ⟨lo, hi, ts⟩ l).length : Int) ≤ most) : readR most l lo hi ts = insR ⟨lo, hi, ts⟩ l := by
  unfold readR; rw [if_pos hy, if_pos h]
theorem readR_many {most : Int} {l : List Rg} {lo hi : ByteArray} {ts : Nat} (hy : okR lo hi ts) (h : ¬ ((insR ⟨lo, hi, ts⟩ l).length : Int) ≤ most) {a b : Rg} {m : List Rg} (e : insR ⟨lo, hi, ts⟩ l = a :: b :: m) : readR most l lo hi ts = insR (mrg a b) m := by
  unfold readR; rw [if_pos hy, if_neg h, e]
theorem readR_not {most : Int} {l : List Rg} {lo hi : ByteArray} {ts : Nat} (hn : ¬ okR lo hi ts) : readR most l lo hi ts = l := by
  unfold readR; rw [if_neg hn]

theorem Says.next {w w1 : World} {L L1 : List Nat} {r : Value} {R : Res} {e : Ending} {w' : World} (hm : Mod L w w1) (hf : ∀ k ∈ L1, k ∈ L ∨ w.heap.size ≤ k) (h : Says w1 L1 r R e w') : Says w L r R e w' := by
  obtain ⟨rfl, L2, h2, m2, f2⟩ := h
  refine ⟨rfl, L2, h2, hm.trans m2 (fun x hx _ => hx) (fun x hx hlt => (hf x hx).resolve_right (by omega)), fun k hk => ?_⟩
  rcases f2 k hk with h | h
  · exact hf k h
  · right; have := hm.size; omega

theorem two_boxes (w : World) (c d : Array Value) (T : TypeId) : Mod [] w ((w.alloc (.cells c T)).alloc (.cells d T)).drew ∧ Blk ((w.alloc (.cells c T)).alloc (.cells d T)).drew w.heap.size c T ∧ Blk ((w.alloc (.cells c T)).alloc (.cells d T)).drew (w.heap.size + 1) d T := by
  have h := Blk.new (w.alloc (.cells c T)) d T
  rw [World.size_alloc] at h
  exact ⟨(((Mod.refl [] w).alloc _).alloc _).drew, ((Blk.new w c T).alloc _).drew, h.drew⟩

set_option maxRecDepth 100000 in
set_option maxHeartbeats 4000000 in
theorem read_yes (w : World) (b : Nat) (most : Int) (l : List Rg) (lo hi : ByteArray) (ts : Nat) (L : List Nat) (h : spanR b most l w L) (hs : Srt l) (hl : l.length ≤ 999) (hm : 1 ≤ most) (hy : okR lo hi ts) :
    Calls Try.prog 10 #[.pointer (some ⟨b, 0, none⟩), .string lo, .string hi, .int .u64 ts] w (Says w L (.tuple #[]) (spanR b most (readR most l lo hi ts))) := by
  have H := hid h
  have Hs := hid hs
  have Hsrt := hid (insR_srt (r := ⟨lo, hi, ts⟩) hs)
  have hl1 := (insR_len ⟨lo, hi, ts⟩ l).2
  have hrd1 := hid (readR_few (most := most) (l := l) hy)
  have hrd2 := hid (fun h a b m e => readR_many (most := most) (l := l) hy h (a := a) (b := b) (m := m) e)
  obtain ⟨R, hR⟩ : ∃ R, readR most l lo hi ts = R := ⟨_, rfl⟩
  rw [hR] at hrd1 hrd2 ⊢
  have Hp : Hid (∀ W, spanR b most l W L → Calls Try.prog 15 #[.pointer (some ⟨b, 0, none⟩), rgV ⟨lo, hi, ts⟩] W (Says W L (.tuple #[]) (spanR b most (insR ⟨lo, hi, ts⟩ l)))) := fun W hW => put_c W b most l ⟨lo, hi, ts⟩ L hW Hs.out (by omega)
  generalize insR ⟨lo, hi, ts⟩ l = l1 at *
  unfold rgV at Hp
  have hl1000 : l1.length ≤ 1000 := by omega
  clear h hs hR
  have hfa : ∃ z, ((hi.toList == []) = z ∧ (z = false → ¬ hi.toList = [] ∧ hi.toList.isEmpty = false ∧ (Op.bytesLess hi.toList lo.toList || hi.toList == lo.toList) = false)) := by
    refine ⟨_, rfl, fun hz => ?_⟩
    have hne : hi ≠ mt := fun e => by rw [(mt_iff hi).1 e] at hz; cases hz
    exact ⟨nmt_list hne, nmt_emp hne, leS_no (hy.1.resolve_left hne)⟩
  have ht : ((ts : Int) == 0) = false := beq_eq_false_iff_ne.2 (by have := hy.2; omega)
  obtain ⟨z, hz, hzf⟩ := hfa
  clear hy
  cases z
  case' true =>
    have f1 : hi.toList = [] := beq_iff_eq.1 hz
    clear hz hzf
  case' false =>
    obtain ⟨f1, f2, f3⟩ := hzf rfl
    clear hz hzf
  all_goals
    go_enter Try.func10, Try.ntmps10
    go_wp2_with fail
    refine (Hp.out w H.out).mono ?_
    rintro e w1 ⟨rfl, L1, hs1, hm1, hf1⟩
    have HS1 := hid hs1
    have HM1 := hid hm1
    have HF1 := hid hf1
    obtain ⟨v, M, hb, ho, hbM, rfl⟩ := hs1
    obtain ⟨a, cap, rfl, hnc, hcap, hg⟩ := ho.val
    have hbl := hb.lt
    have HB := hid hb
    have HO := hid ho
    have b0 : w1.cell? ⟨b, 0, none⟩ = some (.int .i64 most) := hb.cell 0
    have b1 : w1.cell? ⟨b, 1, none⟩ = some (.slice a l1.length cap) := hb.cell 1
    clear hm1 hf1 hb ho H Hp
    by_cases hmost : (l1.length : Int) ≤ most
    · have HR := hid (hrd1.out hmost)
      go_upto_region 2 with (fail)
      go_quiet (fail)
      rename_i nq _
      have hN := (Mod.refl [] w1).drewN nq
      have HSN := hid (Keep.mod HS1.out hN (by simp))
      have HMN := hid (HM1.out.tr (hN.mono (by simp)))
      clear b0 b1 hN
      go_wp2
      go_end0
      refine ⟨rfl, _, ?_, HMN.out, HF1.out⟩
      rw [HR.out]
      exact HSN.out
    · obtain ⟨x, y, m, hxy⟩ : ∃ x y m, l1 = x :: y :: m := by
        match l1, hmost with
        | [], h => simp at h; omega
        | [x], h => simp at h; omega
        | x :: y :: m, _ => exact ⟨x, y, m, rfl⟩
      have HR := hid (hrd2.out (by omega) x y m hxy)
      have hlen2 : 2 ≤ l1.length := by rw [hxy]; simp
      have hx0 : l1[0]? = some x := by rw [hxy]; rfl
      have hy0 : l1[1]? = some y := by rw [hxy]; rfl
      have Hx0 := hid hx0
      have Hy0 := hid hy0
      have Hxy := hid hxy
      clear hxy hx0 hy0
      go_upto_region 2 with (fail)
      go_quiet (fail)
      rename_i nq _
      go_upto_region 3 with (fail)
      have hN := (Mod.refl [] w1).drewN nq
      generalize w1.drewN nq = W2 at *
      obtain ⟨g, rfl, rfl, _⟩ := hg (by omega)
      have hbg : b ≠ g := by simpa using hbM
      have HB2 := hid (hN.blk HB.out (by simp))
      have HO2 := hid (HO.out.mod hN (by simp))
      have HN2 := hid hN
      clear hN b0 b1
      have hS : Hid (∀ X, Mod [] W2 X → X.cell? ⟨b, 1, none⟩ = some (.slice (some ⟨g, 0, none⟩) l1.length cap) ∧ X.cell? ⟨g, 0, none⟩ = some (.string x.lo) ∧ X.cell? ⟨g, 1, none⟩ = some (.string x.hi) ∧ X.cell? ⟨g, 2, none⟩ = some (.int .u64 x.ts) ∧ X.cell? ⟨g, 3, none⟩ = some (.string y.lo) ∧ X.cell? ⟨g, 4, none⟩ = some (.string y.hi) ∧ X.cell? ⟨g, 5, none⟩ = some (.int .u64 y.ts)) := by
        intro X hX
        have hL := (Own.lx rg_lays HO2.out).mod hX
        obtain ⟨_, _, e, hc⟩ := hL.at Hx0.out
        simp only [Option.some.injEq, Addr.mk.injEq, and_true] at e
        obtain ⟨rfl, rfl⟩ := e
        obtain ⟨_, _, e, hd⟩ := hL.at Hy0.out
        simp only [Option.some.injEq, Addr.mk.injEq, and_true] at e
        obtain ⟨rfl, rfl⟩ := e
        exact ⟨(hX.blk HB2.out (by simp)).cell 1, hc 0 _ rfl, hc 1 _ rfl, hc 2 _ rfl, hd 0 _ rfl, hd 1 _ rfl, hd 2 _ rfl⟩
      have hS0 := hS.out _ (Mod.refl [] W2).drew
      have hlen5 : 0 < l1.length := by omega
      have hlen3 : (0 : Int) < (l1.length : Int) := by omega
      have hlen4 : (1 : Int) < (l1.length : Int) := by omega
      have HT1 := hid (two_boxes W2 (rgC x).toArray (rgC y).toArray 48)
      have HT2 := hid (two_boxes W2 (rgC y).toArray (rgC x).toArray 48)
      go_cut [8, 9] from 42 to 53 (fun p q wx => ∃ r1 r2 : Nat, p = .pointer (some ⟨r1, 0, none⟩) ∧ q = .pointer (some ⟨r2, 0, none⟩) ∧ r1 ≠ r2 ∧ W2.heap.size ≤ r1 ∧ W2.heap.size ≤ r2 ∧ Hid (Mod [] W2 wx) ∧ Hid (Blk wx r1 (rgC x).toArray 48) ∧ Hid (Blk wx r2 (rgC y).toArray 48))
      case first =>
        go_region_held3 (fun X => Mod [] W2 X ∧ X.cell? ⟨b, 1, none⟩ = some (.slice (some ⟨g, 0, none⟩) l1.length cap) ∧ X.cell? ⟨g, 0, none⟩ = some (.string x.lo) ∧ X.cell? ⟨g, 1, none⟩ = some (.string x.hi) ∧ X.cell? ⟨g, 2, none⟩ = some (.int .u64 x.ts) ∧ X.cell? ⟨g, 3, none⟩ = some (.string y.lo) ∧ X.cell? ⟨g, 4, none⟩ = some (.string y.hi) ∧ X.cell? ⟨g, 5, none⟩ = some (.int .u64 y.ts))
          (first
            | exact ⟨(Mod.refl [] W2).drew, hS0⟩
            | assumption
            | (refine (fun h => ⟨h, hS.out _ h⟩) ?_; (repeat (first | exact Mod.refl [] W2 | refine Mod.drew ?_ | refine Mod.alloc ?_ _)); done)
            | fail)
          (fail)
        all_goals
          go_wp2
          go_meet
          first
            | exact ⟨_, _, rfl, rfl, Nat.ne_of_lt (Nat.lt_succ_self _), Nat.le_refl _, Nat.le_succ _, HT1.out.1, HT1.out.2.1, HT1.out.2.2⟩
            | exact ⟨_, _, rfl, rfl, Nat.ne_of_gt (Nat.lt_succ_self _), Nat.le_succ _, Nat.le_refl _, HT2.out.1, HT2.out.2.2, HT2.out.2.1⟩
      case rest =>
        obtain ⟨r1, r2, rfl, rfl, hrr, hr1, hr2, HMc, HR1, HR2⟩ := hcut
        clear HT1 HT2 hS hS0
        have hb2 := HB2.out.lt
        have hg2 := HO2.out.lt g (by simp)
        replace HB2 := hid (HMc.out.blk HB2.out (by simp))
        replace HO2 := hid (HO2.out.mod HMc.out (by simp))
        have HMc2 := hid (HN2.out.tr HMc.out)
        have b1 : wc.cell? ⟨b, 1, none⟩ = some (.slice (some ⟨g, 0, none⟩) l1.length cap) := HB2.out.cell 1
        have hD := hid (del_c wc g cap l1 0 2 HO2.out (by omega) hlen2 (by omega))
        have e1 : l1.take 0 ++ l1.drop 2 = m := by rw [Hxy.out]; rfl
        have e2 : 0 + (l1.length - 2) = m.length := by rw [Hxy.out]; simp
        have hml : m.length + 2 = l1.length := by rw [Hxy.out]; simp
        have hsm : Hid (Srt m) := by
          have h := Hsrt.out
          rw [Hxy.out] at h
          exact (List.pairwise_cons.1 (List.pairwise_cons.1 h).2).2
        rw [e1, e2] at hD
        have Hml := hid hml
        have hml2 : m.length ≤ 998 := by omega
        clear e1 e2 hml
        go_wp2_with fail
        refine hD.out.mono ?_
        rintro e w3 ⟨rfl, ho3, hm3⟩
        have hb3 := hm3.blk HB2.out (by simpa using hbg)
        have hr1g : r1 ≠ g := by omega
        have hr2g : r2 ≠ g := by omega
        have hr1b : r1 ≠ b := by omega
        have hr2b : r2 ≠ b := by omega
        have hR13 := hm3.blk HR1.out (by simpa using hr1g)
        have hR23 := hm3.blk HR2.out (by simpa using hr2g)
        have hb3l := hb3.lt
        have hb3f := hb3.free 1
        have hb3c : w3.cell? ⟨b, 1, none⟩ = some (.slice (some ⟨g, 0, none⟩) l1.length cap) := hb3.cell 1
        have hS3 : spanR b most m (w3.setCell ⟨b, 1, none⟩ (.slice (some ⟨g, 0, none⟩) m.length cap)) [b, g] :=
          ⟨_, [g], hb3.set 1 _, ho3.mod (M := [b]) ((Mod.refl [b] w3).setCell (by simp) _) (by simpa using Ne.symm hbg), by simpa using hbg, rfl⟩
        have HS3 := hid hS3
        have HM3 := hid ((HMc2.out.mono (m := [b, g]) (by simp)).tr ((hm3.mono (m := [b, g]) (by simp)).setCell (p := ⟨b, 1, none⟩) (by simp) (.slice (some ⟨g, 0, none⟩) m.length cap)))
        have HR1c := hid (hR13.other (a := ⟨b, 1, none⟩) hr1b (.slice (some ⟨g, 0, none⟩) m.length cap))
        have HR2c := hid (hR23.other (a := ⟨b, 1, none⟩) hr2b (.slice (some ⟨g, 0, none⟩) m.length cap))
        have q0 : w3.cell? ⟨r1, 0, none⟩ = some (.string x.lo) := hR13.cell 0
        have q1 : w3.cell? ⟨r1, 1, none⟩ = some (.string x.hi) := hR13.cell 1
        have q2 : w3.cell? ⟨r1, 2, none⟩ = some (.int .u64 x.ts) := hR13.cell 2
        have p1 : w3.cell? ⟨r2, 1, none⟩ = some (.string y.hi) := hR23.cell 1
        have p2 : w3.cell? ⟨r2, 2, none⟩ = some (.int .u64 y.ts) := hR23.cell 2
        have qf1 := hR13.free 1
        have qf2 := hR13.free 2
        have hr1l := hR13.lt
        have hr2l := hR23.lt
        have hmx : Hid ((max (x.ts : Int) (y.ts : Int)) = ((max x.ts y.ts : Nat) : Int)) := by show _ = _; omega
        clear hb3 ho3 hm3 hR13 hR23 hS3 b1 hD
        by_cases hE : EL x.hi y.hi
        · have hEE := end_lt hE
          have hmg : Hid (mrg x y = ⟨x.lo, y.hi, max x.ts y.ts⟩) := by show _ = _; unfold mrg; rw [if_pos hE]
          clear hE
          go_wp2_with (go_at_call 17; refine (ends_c _ _ _).mono ?_; rintro e w4 ⟨rfl, rfl⟩; rw [hEE])
          rw [hmx.out]
          have hmr := Mod.refl [r1] (w3.setCell ⟨b, 1, none⟩ (.slice (some ⟨g, 0, none⟩) m.length cap))
          have hm4 := (hmr.setCell (p := ⟨r1, 1, none⟩) (by simp) (.string y.hi)).setCell (p := ⟨r1, 2, none⟩) (by simp) (.int .u64 ((max x.ts y.ts : Nat) : Int))
          have HS4 := hid (Keep.mod HS3.out hm4 (by simp; omega))
          have HPut := hid (put_c _ b most m ⟨x.lo, y.hi, max x.ts y.ts⟩ _ HS4.out hsm.out (by omega))
          have HM4 := hid hm4
          clear hm4 hmr
          refine HPut.out.mono ?_
          rintro e w5 ⟨rfl, L5, hL5, hm5, hf5⟩
          have HL5 := hid hL5
          have HM5 := hid hm5
          have HF5 := hid hf5
          clear hL5 hm5 hf5
          go_wp2
          go_end0
          have hz1 := HN2.out.size
          have hz4 := HM4.out.size
          have hz3 := HM3.out.size
          refine Says.next HM1.out HF1.out ⟨rfl, L5, ?_, (HM3.out.trans HM4.out (m := [b, g]) (fun q h _ => h) (by intro q hq hlt; simp at hq; omega)).tr HM5.out, ?_⟩
          · rw [HR.out, hmg.out]; exact HL5.out
          · intro k hk
            rcases HF5.out k hk with h | h
            · exact Or.inl h
            · right; omega
        · have hEE := end_ge hE
          have hmg : Hid (mrg x y = ⟨x.lo, x.hi, max x.ts y.ts⟩) := by show _ = _; unfold mrg; rw [if_neg hE]
          clear hE
          go_wp2_with (go_at_call 17; refine (ends_c _ _ _).mono ?_; rintro e w4 ⟨rfl, rfl⟩)
          rw [hmx.out]
          have hmr := Mod.refl [r1] (w3.setCell ⟨b, 1, none⟩ (.slice (some ⟨g, 0, none⟩) m.length cap))
          have hm4 := hmr.setCell (p := ⟨r1, 2, none⟩) (by simp) (.int .u64 ((max x.ts y.ts : Nat) : Int))
          have HS4 := hid (Keep.mod HS3.out hm4 (by simp; omega))
          have HPut := hid (put_c _ b most m ⟨x.lo, x.hi, max x.ts y.ts⟩ _ HS4.out hsm.out (by omega))
          have HM4 := hid hm4
          clear hm4 hmr
          refine HPut.out.mono ?_
          rintro e w5 ⟨rfl, L5, hL5, hm5, hf5⟩
          have HL5 := hid hL5
          have HM5 := hid hm5
          have HF5 := hid hf5
          clear hL5 hm5 hf5
          go_wp2
          go_end0
          have hz1 := HN2.out.size
          have hz4 := HM4.out.size
          have hz3 := HM3.out.size
          refine Says.next HM1.out HF1.out ⟨rfl, L5, ?_, (HM3.out.trans HM4.out (m := [b, g]) (fun q h _ => h) (by intro q hq hlt; simp at hq; omega)).tr HM5.out, ?_⟩
          · rw [HR.out, hmg.out]; exact HL5.out
          · intro k hk
            rcases HF5.out k hk with h | h
            · exact Or.inl h
            · right; omega
/-- Read, whatever the range. -/
theorem read_c (w : World) (b : Nat) (most : Int) (l : List Rg) (lo hi : ByteArray) (ts : Nat) (L : List Nat) (h : spanR b most l w L) (hs : Srt l) (hl : l.length ≤ 999) (hm : 1 ≤ most) :
    Calls Try.prog 10 #[.pointer (some ⟨b, 0, none⟩), .string lo, .string hi, .int .u64 ts] w (Says w L (.tuple #[]) (spanR b most (readR most l lo hi ts))) := by
  by_cases hy : okR lo hi ts
  · exact read_yes w b most l lo hi ts L h hs hl hm hy
  · rw [readR_not hy]; exact read_no w b most l lo hi ts L h hy

end Go.Proofs.Ytkacjggjmdndaaa
