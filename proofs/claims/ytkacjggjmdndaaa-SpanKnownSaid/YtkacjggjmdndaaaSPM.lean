/- The reference's Read. -/
import Derived.Test.YtkacjggjmdndaaaSPL
namespace Go.Proofs.Ytkacjggjmdndaaa
set_option linter.unusedVariables false
set_option linter.unusedSimpArgs false
set_option linter.unusedSectionVars false
open Go.RowKit

open Classical in
set_option maxRecDepth 100000 in
set_option maxHeartbeats 4000000 in
theorem rread_yes (w : World) (b : Nat) (most : Int) (l : List Rg) (lo hi : ByteArray) (ts : Nat) (L : List Nat) (h : refR b most l w L) (hs : Srt l) (hl : l.length ≤ 999) (hm : 1 ≤ most) (hy : okR lo hi ts) :
    Calls Try.prog 11 #[.pointer (some ⟨b, 0, none⟩), .string lo, .string hi, .int .u64 ts] w (Says w L (.tuple #[]) (refR b most (readR most l lo hi ts))) := by
  have H := hid h
  have Hs := hid hs
  have Hsrt := hid (insR_srt (r := ⟨lo, hi, ts⟩) hs)
  have hl1 := (insR_len ⟨lo, hi, ts⟩ l).2
  have hrd1 := hid (readR_few (most := most) (l := l) hy)
  have hrd2 := hid (fun h a b m e => readR_many (most := most) (l := l) hy h (a := a) (b := b) (m := m) e)
  obtain ⟨R, hR⟩ : ∃ R, readR most l lo hi ts = R := ⟨_, rfl⟩
  rw [hR] at hrd1 hrd2 ⊢
  have Hp : Hid (∀ W, refR b most l W L → Calls Try.prog 18 #[.pointer (some ⟨b, 0, none⟩), rgV ⟨lo, hi, ts⟩] W (Says W L (.tuple #[]) (refR b most (insR ⟨lo, hi, ts⟩ l)))) := fun W hW => rput_c W b most l ⟨lo, hi, ts⟩ L hW Hs.out (by omega)
  generalize insR ⟨lo, hi, ts⟩ l = l1 at *
  unfold rgV at Hp
  have hl1000 : l1.length ≤ 1000 := by omega
  clear h hs hR
  have hfa : ∃ z, ((hi.toList == []) = z ∧ (z = false → ¬ hi.toList = [] ∧ hi.toList.isEmpty = false ∧ (Op.bytesLess hi.toList lo.toList || hi.toList == lo.toList) = false)) := by
    refine ⟨_, rfl, fun hz => ?_⟩
    have hne : hi ≠ mt := fun e => by rw [(mt_iff hi).1 e] at hz; cases hz
    exact ⟨nmt_list hne, nmt_emp hne, leS_no (hy.1.resolve_left hne)⟩
  have ht : ((ts : Int) == 0) = false := beq_eq_false_iff_ne.2 (by have := hy.2; omega)
  obtain ⟨z, hz, hzf⟩ := hfa
  clear hy
  cases z
  case' true =>
    have f1 : hi.toList = [] := beq_iff_eq.1 hz
    clear hz hzf
  case' false =>
    obtain ⟨f1, f2, f3⟩ := hzf rfl
    clear hz hzf
  all_goals
    go_enter Try.func11, Try.ntmps11
    go_wp2_with fail
    refine (Hp.out w H.out).mono ?_
    rintro e w1 ⟨rfl, L1, hs1, hm1, hf1⟩
    have HS1 := hid hs1
    have HM1 := hid hm1
    have HF1 := hid hf1
    obtain ⟨v, M, hb, ho, hbM, rfl⟩ := hs1
    obtain ⟨a, cap, rfl, hnc, hga, hg⟩ := ho.val
    have hbl := hb.lt
    have HB := hid hb
    have HO := hid ho
    have b0 : w1.cell? ⟨b, 0, none⟩ = some (.int .i64 most) := hb.cell 0
    have b1 : w1.cell? ⟨b, 1, none⟩ = some (.slice a l1.length cap) := hb.cell 1
    clear hm1 hf1 hb ho H Hp
    by_cases hmost : (l1.length : Int) ≤ most
    · have HR := hid (hrd1.out hmost)
      go_upto_region 2 with (fail)
      go_quiet (fail)
      rename_i nq _
      have hN := (Mod.refl [] w1).drewN nq
      have HSN := hid (Keep.mod HS1.out hN (by simp))
      have HMN := hid (HM1.out.tr (hN.mono (by simp)))
      clear b0 b1 hN
      go_wp2
      go_end0
      refine ⟨rfl, _, ?_, HMN.out, HF1.out⟩
      rw [HR.out]
      exact HSN.out
    · obtain ⟨x, y, m, hxy⟩ : ∃ x y m, l1 = x :: y :: m := by
        match l1, hmost with
        | [], h => simp at h; omega
        | [x], h => simp at h; omega
        | x :: y :: m, _ => exact ⟨x, y, m, rfl⟩
      have HR := hid (hrd2.out (by omega) x y m hxy)
      have hlen2 : 2 ≤ l1.length := by rw [hxy]; simp
      have hx0 : l1[0]? = some x := by rw [hxy]; rfl
      have hy0 : l1[1]? = some y := by rw [hxy]; rfl
      have Hx0 := hid hx0
      have Hy0 := hid hy0
      have Hxy := hid hxy
      clear hxy hx0 hy0
      go_upto_region 2 with (fail)
      go_quiet (fail)
      rename_i nq _
      go_upto_region 3 with (fail)
      have hN := (Mod.refl [] w1).drewN nq
      generalize w1.drewN nq = W2 at *
      obtain ⟨g, off, rfl, rfl, _⟩ := hg (by omega)
      have hbg : b ≠ g := by simpa using hbM
      have HB2 := hid (hN.blk HB.out (by simp))
      have HO2 := hid (HO.out.mod hN (by simp))
      have HN2 := hid hN
      clear hN b0 b1
      have hS : Hid (∀ X, Mod [] W2 X → X.cell? ⟨b, 1, none⟩ = some (.slice (some ⟨g, off, none⟩) l1.length cap) ∧ X.cell? ⟨g, off, none⟩ = some (.string x.lo) ∧ X.cell? ⟨g, off + 1, none⟩ = some (.string x.hi) ∧ X.cell? ⟨g, off + 2, none⟩ = some (.int .u64 x.ts) ∧ X.cell? ⟨g, off + 3, none⟩ = some (.string y.lo) ∧ X.cell? ⟨g, off + 4, none⟩ = some (.string y.hi) ∧ X.cell? ⟨g, off + 5, none⟩ = some (.int .u64 y.ts)) := by
        intro X hX
        have hL := (HO2.out.lx rg_lays (by omega)).mod hX
        obtain ⟨_, _, e, hc⟩ := hL.at Hx0.out
        simp only [Option.some.injEq, Addr.mk.injEq, and_true] at e
        obtain ⟨rfl, rfl⟩ := e
        obtain ⟨_, _, e, hd⟩ := hL.at Hy0.out
        simp only [Option.some.injEq, Addr.mk.injEq, and_true] at e
        obtain ⟨rfl, rfl⟩ := e
        exact ⟨(hX.blk HB2.out (by simp)).cell 1, hc 0 _ rfl, hc 1 _ rfl, hc 2 _ rfl, hd 0 _ rfl, hd 1 _ rfl, hd 2 _ rfl⟩
      have hS0 := hS.out _ (Mod.refl [] W2).drew
      have hlen5 : 0 < l1.length := by omega
      have hlen3 : (0 : Int) < (l1.length : Int) := by omega
      have hlen4 : (1 : Int) < (l1.length : Int) := by omega
      have HT1 := hid (two_boxes W2 (rgC x).toArray (rgC y).toArray 52)
      have HT2 := hid (two_boxes W2 (rgC y).toArray (rgC x).toArray 52)
      go_cut [8, 9] from 37 to 48 (fun p q wx => ∃ r1 r2 : Nat, p = .pointer (some ⟨r1, 0, none⟩) ∧ q = .pointer (some ⟨r2, 0, none⟩) ∧ r1 ≠ r2 ∧ W2.heap.size ≤ r1 ∧ W2.heap.size ≤ r2 ∧ Hid (Mod [] W2 wx) ∧ Hid (Blk wx r1 (rgC x).toArray 52) ∧ Hid (Blk wx r2 (rgC y).toArray 52))
      case first =>
        go_region_held3 (fun X => Mod [] W2 X ∧ X.cell? ⟨b, 1, none⟩ = some (.slice (some ⟨g, off, none⟩) l1.length cap) ∧ X.cell? ⟨g, off, none⟩ = some (.string x.lo) ∧ X.cell? ⟨g, off + 1, none⟩ = some (.string x.hi) ∧ X.cell? ⟨g, off + 2, none⟩ = some (.int .u64 x.ts) ∧ X.cell? ⟨g, off + 3, none⟩ = some (.string y.lo) ∧ X.cell? ⟨g, off + 4, none⟩ = some (.string y.hi) ∧ X.cell? ⟨g, off + 5, none⟩ = some (.int .u64 y.ts))
          (first
            | exact ⟨(Mod.refl [] W2).drew, hS0⟩
            | assumption
            | (refine (fun h => ⟨h, hS.out _ h⟩) ?_; (repeat (first | exact Mod.refl [] W2 | refine Mod.drew ?_ | refine Mod.alloc ?_ _)); done)
            | fail)
          (fail)
        all_goals
          go_wp2
          go_meet
          first
            | exact ⟨_, _, rfl, rfl, Nat.ne_of_lt (Nat.lt_succ_self _), Nat.le_refl _, Nat.le_succ _, HT1.out.1, HT1.out.2.1, HT1.out.2.2⟩
            | exact ⟨_, _, rfl, rfl, Nat.ne_of_gt (Nat.lt_succ_self _), Nat.le_succ _, Nat.le_refl _, HT2.out.1, HT2.out.2.2, HT2.out.2.1⟩
      case rest =>
        obtain ⟨r1, r2, rfl, rfl, hrr, hr1, hr2, HMc, HR1, HR2⟩ := hcut
        clear HT1 HT2 hS hS0
        have hb2 := HB2.out.lt
        have hg2 := HO2.out.lt g (by simp)
        replace HB2 := hid (HMc.out.blk HB2.out (by simp))
        replace HO2 := hid (HO2.out.mod HMc.out (by simp))
        have HMc2 := hid (HN2.out.tr HMc.out)
        have b1 : wc.cell? ⟨b, 1, none⟩ = some (.slice (some ⟨g, off, none⟩) l1.length cap) := HB2.out.cell 1
        have e1 : l1.drop 2 = m := by rw [Hxy.out]; rfl
        have e2 : l1.length - 2 = m.length := by rw [Hxy.out]; simp
        have hml : m.length + 2 = l1.length := by rw [Hxy.out]; simp
        have hsm : Hid (Srt m) := by
          have h := Hsrt.out
          rw [Hxy.out] at h
          exact (List.pairwise_cons.1 (List.pairwise_cons.1 h).2).2
        have hml2 : m.length ≤ 998 := by omega
        obtain ⟨vv, hvv⟩ : ∃ vv, vv = (if cap = 2 then Value.slice (some ⟨g, off, none⟩) 0 0 else Value.slice (some ⟨g, off + 2 * 3, none⟩) (l1.length - 2) (cap - 2)) := ⟨_, rfl⟩
        have hseg : ∃ N, Seg wc 52 3 vv m.length (flat rgC m) N ∧ (N = [] ∨ N = [g]) := by
          rcases Nat.lt_or_ge 2 l1.length with h2 | h2
          · have h := HO2.out.drop 2 h2 (cap - 2) (by omega)
            rw [e2, ← flat_drop rg_lays, e1] at h
            rw [hvv, if_neg (by omega), e2]
            exact ⟨[g], h, Or.inr rfl⟩
          · have hm0 : m.length = 0 := by omega
            have hmn := List.eq_nil_of_length_eq_zero hm0
            rw [hvv]
            rw [hmn, show l1.length - 2 = 0 by omega]
            split
            · exact ⟨[], Seg.empty wc _ 3 g off 0, Or.inl rfl⟩
            · exact ⟨[], Seg.empty wc _ 3 g (off + 2 * 3) (cap - 2), Or.inl rfl⟩
        have HSEG := hid hseg
        have Hvv := hid hvv
        clear e1 e2 hml hvv hseg
        have bf1 := HB2.out.free 1
        have hb2l := HB2.out.lt
        have hr1b : r1 ≠ b := by omega
        have hr2b : r2 ≠ b := by omega
        have q0 : wc.cell? ⟨r1, 0, none⟩ = some (.string x.lo) := HR1.out.cell 0
        have q1 : wc.cell? ⟨r1, 1, none⟩ = some (.string x.hi) := HR1.out.cell 1
        have q2 : wc.cell? ⟨r1, 2, none⟩ = some (.int .u64 x.ts) := HR1.out.cell 2
        have p1 : wc.cell? ⟨r2, 1, none⟩ = some (.string y.hi) := HR2.out.cell 1
        have p2 : wc.cell? ⟨r2, 2, none⟩ = some (.int .u64 y.ts) := HR2.out.cell 2
        have qf1 := HR1.out.free 1
        have qf2 := HR1.out.free 2
        have hr1l := HR1.out.lt
        have hr2l := HR2.out.lt
        have hmx : Hid ((max (x.ts : Int) (y.ts : Int)) = ((max x.ts y.ts : Nat) : Int)) := by show _ = _; omega
        by_cases hE : EL x.hi y.hi
        · have hbf : befB x.hi y.hi = true := by unfold befB; exact decide_eq_true hE
          have hmg : Hid (mrg x y = ⟨x.lo, y.hi, max x.ts y.ts⟩) := by show _ = _; unfold mrg; rw [if_pos hE]
          clear hE
          have hm4 := ((Mod.refl [r1] wc).setCell (p := ⟨r1, 1, none⟩) (by simp) (.string y.hi)).setCell (p := ⟨r1, 2, none⟩) (by simp) (.int .u64 ((max x.ts y.ts : Nat) : Int))
          go_upto_region 7 with (go_at_call 19; refine (before_c _ _ _).mono ?_; rintro e w4 ⟨rfl, rfl⟩; rw [hbf])
          rw [hmx.out]
          obtain ⟨N, hN, hNg⟩ := HSEG.out
          have hNb : b ∉ N := by rcases hNg with rfl | rfl; simp; simpa using hbg
          have hNr : ∀ k ∈ N, k ≠ r1 := by rcases hNg with rfl | rfl; simp; (intro k hk; simp at hk; subst hk; omega)
          have hblk4 := (hm4.blk HB2.out (by simp; omega))
          have hS3 : refR b most m (((wc.setCell ⟨r1, 1, none⟩ (.string y.hi)).setCell ⟨r1, 2, none⟩ (.int .u64 ((max x.ts y.ts : Nat) : Int))).setCell ⟨b, 1, none⟩ vv) (b :: N) :=
            ⟨_, N, hblk4.set 1 _, (hN.mod hm4 (fun k hk => by simpa using hNr k hk)).mod (M := [b]) ((Mod.refl [b] _).setCell (by simp) _) (fun k hk => by simp; intro h; exact hNb (h ▸ hk)), hNb, rfl⟩
          have HPut := hid (rput_c _ b most m ⟨x.lo, y.hi, max x.ts y.ts⟩ _ hS3 hsm.out (by omega))
          have HM4 := hid hm4
          have HNg := hid hNg
          clear hm4 hS3 hN hNg hblk4
          rw [Hvv.out] at HPut
          by_cases hcap2 : cap = 2
          · rw [if_pos hcap2] at HPut
            have hl2 : l1.length = 2 := by omega
            go_wp2_with fail
            refine HPut.out.mono ?_
            rintro e w5 ⟨rfl, L5, hL5, hm5, hf5⟩
            have HL5 := hid hL5
            have HM5 := hid hm5
            have HF5 := hid hf5
            clear hL5 hm5 hf5
            go_wp2
            go_end0
            have hz1 := HN2.out.size
            have hz4 := HM4.out.size
            have hz3 := HMc2.out.size
            have hNs : ∀ k ∈ b :: N, k ∈ [b, g] := by
              intro k hk
              rcases List.mem_cons.1 hk with rfl | hk
              · simp
              · rcases HNg.out with rfl | rfl
                · cases hk
                · simp at hk; simp [hk]
            have hmA : Mod [b, g] w1 _ := ((HMc2.out.mono (m := [b, g]) (by simp)).trans HM4.out (m := [b, g]) (fun q h _ => h) (by intro q hq hlt; simp at hq; omega)).setCell (p := ⟨b, 1, none⟩) (Or.inl (by simp)) (.slice (some ⟨g, off, none⟩) 0 0)
            refine Says.next HM1.out HF1.out ⟨rfl, L5, ?_, hmA.trans HM5.out (m := [b, g]) (fun q h _ => h) (fun q hq _ => hNs q hq), ?_⟩
            · rw [HR.out, hmg.out]; exact HL5.out
            · intro k hk
              rcases HF5.out k hk with h | h
              · exact Or.inl (hNs k h)
              · right
                have := hmA.size
                omega
          · rw [if_neg hcap2] at HPut
            go_wp2_with fail
            refine HPut.out.mono ?_
            rintro e w5 ⟨rfl, L5, hL5, hm5, hf5⟩
            have HL5 := hid hL5
            have HM5 := hid hm5
            have HF5 := hid hf5
            clear hL5 hm5 hf5
            go_wp2
            go_end0
            have hz1 := HN2.out.size
            have hz4 := HM4.out.size
            have hz3 := HMc2.out.size
            have hNs : ∀ k ∈ b :: N, k ∈ [b, g] := by
              intro k hk
              rcases List.mem_cons.1 hk with rfl | hk
              · simp
              · rcases HNg.out with rfl | rfl
                · cases hk
                · simp at hk; simp [hk]
            have hmA : Mod [b, g] w1 _ := ((HMc2.out.mono (m := [b, g]) (by simp)).trans HM4.out (m := [b, g]) (fun q h _ => h) (by intro q hq hlt; simp at hq; omega)).setCell (p := ⟨b, 1, none⟩) (Or.inl (by simp)) (.slice (some ⟨g, off + 2 * 3, none⟩) (l1.length - 2) (cap - 2))
            refine Says.next HM1.out HF1.out ⟨rfl, L5, ?_, hmA.trans HM5.out (m := [b, g]) (fun q h _ => h) (fun q hq _ => hNs q hq), ?_⟩
            · rw [HR.out, hmg.out]; exact HL5.out
            · intro k hk
              rcases HF5.out k hk with h | h
              · exact Or.inl (hNs k h)
              · right
                have := hmA.size
                omega
        · have hbf : befB x.hi y.hi = false := by unfold befB; exact decide_eq_false hE
          have hmg : Hid (mrg x y = ⟨x.lo, x.hi, max x.ts y.ts⟩) := by show _ = _; unfold mrg; rw [if_neg hE]
          clear hE
          have hm4 := (Mod.refl [r1] wc).setCell (p := ⟨r1, 2, none⟩) (by simp) (.int .u64 ((max x.ts y.ts : Nat) : Int))
          go_upto_region 7 with (go_at_call 19; refine (before_c _ _ _).mono ?_; rintro e w4 ⟨rfl, rfl⟩; rw [hbf])
          rw [hmx.out]
          obtain ⟨N, hN, hNg⟩ := HSEG.out
          have hNb : b ∉ N := by rcases hNg with rfl | rfl; simp; simpa using hbg
          have hNr : ∀ k ∈ N, k ≠ r1 := by rcases hNg with rfl | rfl; simp; (intro k hk; simp at hk; subst hk; omega)
          have hblk4 := (hm4.blk HB2.out (by simp; omega))
          have hS3 : refR b most m ((wc.setCell ⟨r1, 2, none⟩ (.int .u64 ((max x.ts y.ts : Nat) : Int))).setCell ⟨b, 1, none⟩ vv) (b :: N) :=
            ⟨_, N, hblk4.set 1 _, (hN.mod hm4 (fun k hk => by simpa using hNr k hk)).mod (M := [b]) ((Mod.refl [b] _).setCell (by simp) _) (fun k hk => by simp; intro h; exact hNb (h ▸ hk)), hNb, rfl⟩
          have HPut := hid (rput_c _ b most m ⟨x.lo, x.hi, max x.ts y.ts⟩ _ hS3 hsm.out (by omega))
          have HM4 := hid hm4
          have HNg := hid hNg
          clear hm4 hS3 hN hNg hblk4
          rw [Hvv.out] at HPut
          by_cases hcap2 : cap = 2
          · rw [if_pos hcap2] at HPut
            have hl2 : l1.length = 2 := by omega
            go_wp2_with fail
            refine HPut.out.mono ?_
            rintro e w5 ⟨rfl, L5, hL5, hm5, hf5⟩
            have HL5 := hid hL5
            have HM5 := hid hm5
            have HF5 := hid hf5
            clear hL5 hm5 hf5
            go_wp2
            go_end0
            have hz1 := HN2.out.size
            have hz4 := HM4.out.size
            have hz3 := HMc2.out.size
            have hNs : ∀ k ∈ b :: N, k ∈ [b, g] := by
              intro k hk
              rcases List.mem_cons.1 hk with rfl | hk
              · simp
              · rcases HNg.out with rfl | rfl
                · cases hk
                · simp at hk; simp [hk]
            have hmA : Mod [b, g] w1 _ := ((HMc2.out.mono (m := [b, g]) (by simp)).trans HM4.out (m := [b, g]) (fun q h _ => h) (by intro q hq hlt; simp at hq; omega)).setCell (p := ⟨b, 1, none⟩) (Or.inl (by simp)) (.slice (some ⟨g, off, none⟩) 0 0)
            refine Says.next HM1.out HF1.out ⟨rfl, L5, ?_, hmA.trans HM5.out (m := [b, g]) (fun q h _ => h) (fun q hq _ => hNs q hq), ?_⟩
            · rw [HR.out, hmg.out]; exact HL5.out
            · intro k hk
              rcases HF5.out k hk with h | h
              · exact Or.inl (hNs k h)
              · right
                have := hmA.size
                omega
          · rw [if_neg hcap2] at HPut
            go_wp2_with fail
            refine HPut.out.mono ?_
            rintro e w5 ⟨rfl, L5, hL5, hm5, hf5⟩
            have HL5 := hid hL5
            have HM5 := hid hm5
            have HF5 := hid hf5
            clear hL5 hm5 hf5
            go_wp2
            go_end0
            have hz1 := HN2.out.size
            have hz4 := HM4.out.size
            have hz3 := HMc2.out.size
            have hNs : ∀ k ∈ b :: N, k ∈ [b, g] := by
              intro k hk
              rcases List.mem_cons.1 hk with rfl | hk
              · simp
              · rcases HNg.out with rfl | rfl
                · cases hk
                · simp at hk; simp [hk]
            have hmA : Mod [b, g] w1 _ := ((HMc2.out.mono (m := [b, g]) (by simp)).trans HM4.out (m := [b, g]) (fun q h _ => h) (by intro q hq hlt; simp at hq; omega)).setCell (p := ⟨b, 1, none⟩) (Or.inl (by simp)) (.slice (some ⟨g, off + 2 * 3, none⟩) (l1.length - 2) (cap - 2))
            refine Says.next HM1.out HF1.out ⟨rfl, L5, ?_, hmA.trans HM5.out (m := [b, g]) (fun q h _ => h) (fun q hq _ => hNs q hq), ?_⟩
            · rw [HR.out, hmg.out]; exact HL5.out
            · intro k hk
              rcases HF5.out k hk with h | h
              · exact Or.inl (hNs k h)
              · right
                have := hmA.size
                omega

set_option maxRecDepth 100000 in
set_option maxHeartbeats 1000000 in
theorem rread_no (w : World) (b : Nat) (most : Int) (l : List Rg) (lo hi : ByteArray) (ts : Nat) (L : List Nat) (h : refR b most l w L) (hn : ¬ okR lo hi ts) :
    Calls Try.prog 11 #[.pointer (some ⟨b, 0, none⟩), .string lo, .string hi, .int .u64 ts] w (Says w L (.tuple #[]) (refR b most l)) := by
  have H := hid h
  clear h
  rcases okR_cases lo hi ts with ⟨_, h⟩ | ⟨h, _⟩
  · rcases h with ⟨h1, h2⟩ | ⟨h1, h2⟩ | ⟨h1, h2, h3⟩
    · have f1 := nmt_list h1
      have f2 := nmt_emp h1
      have f3 := leS_yes h2
      clear h1 h2 hn
      go_enter Try.func11, Try.ntmps11
      go_wp2
      go_end0
      exact Says.here H.out
    · have f1 := (mt_iff hi).1 h1
      have f2 : ((ts : Int) == 0) = true := beq_iff_eq.2 (by omega)
      clear h1 h2 hn
      go_enter Try.func11, Try.ntmps11
      go_wp2
      go_end0
      exact Says.here H.out
    · have f1 := nmt_list h1
      have f2 := nmt_emp h1
      have f3 := leS_no h2
      have f4 : ((ts : Int) == 0) = true := beq_iff_eq.2 (by omega)
      clear h1 h2 h3 hn
      go_enter Try.func11, Try.ntmps11
      go_wp2
      go_end0
      exact Says.here H.out
  · exact absurd h hn

theorem rread_c (w : World) (b : Nat) (most : Int) (l : List Rg) (lo hi : ByteArray) (ts : Nat) (L : List Nat) (h : refR b most l w L) (hs : Srt l) (hl : l.length ≤ 999) (hm : 1 ≤ most) :
    Calls Try.prog 11 #[.pointer (some ⟨b, 0, none⟩), .string lo, .string hi, .int .u64 ts] w (Says w L (.tuple #[]) (refR b most (readR most l lo hi ts))) := by
  by_cases hy : okR lo hi ts
  · exact rread_yes w b most l lo hi ts L h hs hl hm hy
  · rw [readR_not hy]; exact rread_no w b most l lo hi ts L h hy

set_option maxRecDepth 100000 in
theorem rnew_no (w : World) (most : Int) (h : most < 1) : Calls Try.prog 7 #[.int .i64 most] w fun e w' => e = .returned (.pointer none) ∧ Mod [] w w' := by
  go_enter Try.func7, Try.ntmps7
  go_wp2
  go_ret
  exact ⟨rfl, Mod.refl [] w⟩
set_option maxRecDepth 100000 in
theorem rnew_c (w : World) (most : Int) (h : 1 ≤ most) : Calls Try.prog 7 #[.int .i64 most] w fun e w' => e = .returned (.pointer (some ⟨w.heap.size, 0, none⟩)) ∧ refR w.heap.size most [] w' [w.heap.size] ∧ Mod [] w w' ∧ w'.heap.size = w.heap.size + 1 := by
  have h' : ¬ most < 1 := by omega
  go_enter Try.func7, Try.ntmps7
  go_wp2
  go_ret
  exact ⟨rfl, ⟨.slice none 0 0, [], Blk.new _ _ _, Seg.nil _ _ _, by simp, rfl⟩, (Mod.refl [] w).alloc _, by simp⟩

end Go.Proofs.Ytkacjggjmdndaaa
