/- TxnLast: the walk. -/
import Derived.Test.YtocfeeecgpklnaaMP
import Derived.Test.YtocfeeecgpklnaaTYB
namespace Go.Proofs.Ytocfeeecgpklnaa
set_option linter.unusedVariables false
set_option linter.unusedSimpArgs false
set_option linter.unusedSectionVars false
open Go.RowKit Go.Shelf

theorem Top.map {w0 w : World} {U : Res} [Keep U] {b : Nat} {m : List Rc} (h : Top w0 (star (MapR b m) U) w) : ∃ L, MapR b m w L ∧ ∀ m' w', MapR b m' w' L → Mod [b] w w' → Top w0 (star (MapR b m') U) w' := by
  obtain ⟨L, ⟨L1, L2, h1, h2, rfl, hd⟩, hm, hf⟩ := h
  refine ⟨L1, h1, fun m' w' k1 k2 => ?_⟩
  have e : L1 = [b] := h1.1
  exact (Top.says (r := undef) (e := .returned undef) h1 h2 hd hm hf ⟨rfl, L1, k1, e ▸ k2, fun k hk => Or.inl hk⟩).2
theorem wpList_mapR {w : World} {ops : Array Oper} {rest : List Oper} {o : Oper} {a : Act} {Q : Exit → Act → World → Prop} (hg : o.guard = none) (m x v : Operand) (t : TypeId) (hop : o.op = Op.mapUpdate t m x v) (k e : TypeId)
    (ht : Try.prog.underlying t = some (.map k e)) (hk : Try.prog.underlying k = some .string) (b : Nat) (mm : List Rc) (L : List Nat) (hm : a.eval m = .map (some b)) (h : MapR b mm w L) (hs : Kr mm) (r : Rc) (hx : a.eval x = .string r.key) (hv : a.eval v = rcV r) (hsz : r.key.size ≤ maxLen)
    (hK : ∀ w', MapR b (putO mm r) w' L → Mod [b] w w' → wpList Try.prog ops Q rest (a.put o.dst undef) w') : wpList Try.prog ops Q (o :: rest) a w := by
  refine wpList_plain hg fun K' hK' => ?_
  obtain ⟨w', hrun, r1, r2⟩ := run_mapR_update ht hk h hs r hsz
  unfold Oper.wp
  simp [execOp, hop, hm, hx, hv, hrun, Result.andThen]
  exact hK' _ _ (hK w' r1 r2)
theorem size_nonS (s : ByteArray) : nonS s = decide (1 ≤ s.size) := by
  rcases Nat.eq_zero_or_pos s.size with h | h
  · have : s = mt := by
      apply ba_ext
      have h2 : s.data.toList.length = 0 := by simpa using h
      rw [List.length_eq_zero_iff.1 h2]; rfl
    rw [this]; decide +kernel
  · rw [show decide (1 ≤ s.size) = true from decide_eq_true h]
    have hne : s ≠ mt := by rintro rfl; exact absurd h (by decide +kernel)
    unfold nonS
    rw [nmt_emp hne]; rfl
theorem map_zero (w : World) : (zeroValue 32).run Try.prog w = .ok (rcV rc0) w := by kernel_rfl

def mayOk (y : Rc) : Bool := decide (mayE y = 0)

set_option maxRecDepth 100000 in
set_option maxHeartbeats 4000000 in
theorem last_c (a : Option Addr) (cap : Nat) (xs : List Rc) (w : World) (hx : Lx 4 rcC w (.slice a xs.length cap) xs) (hok : ∀ x ∈ xs, x.Ok) :
    Calls Try.prog 4 #[.slice a xs.length cap] w fun e w' => e = .returned (.bool true) ∧ Mod [] w w' := by
  have HX := hid hx
  have HOk := hid hok
  have hlen := hx.len.2
  clear hx hok
  have HT := hid (Top.start w)
  have hmm := @run_makeMap Try.prog
  go_enter Try.func4, Try.ntmps4
  go_wp2_with fail
  refine (new_c w 3 0 (by decide)).mono ?_
  intro e w1 hs
  obtain ⟨rfl, hT1⟩ := HT.out.new hs
  have HT1 := hid hT1
  clear hT1 hs HT
  generalize w.heap.size = b at *
  have HT2 := hid ((HT1.out.made (mapR_new w1) ((Mod.refl [] w1).alloc _) (by simp)).swap)
  clear HT1
  go_wp2
  generalize w1.alloc (.map #[] 0) = W at *
  generalize w1.heap.size = mb at *
  have hI0 : Hid (Kr (tx0 3 0).ops ∧ overB (tx0 3 0) = false) := ⟨Kr.nil, rfl⟩
  have hl0 : (tx0 3 0).ops.length ≤ 0 := Nat.le_refl _
  replace HT2 : Hid (Top w (star (txR b (tx0 3 0)) (star (MapR mb (tx0 3 0).ops) emp)) W) := HT2
  clear hmm
  generalize tx0 3 0 = t0 at *
  go_loopg [5] (min xs.length 30) (fun g p wr => ∃ (i : Nat) (t : Tx), p = .int .i64 i ∧ i + g = min xs.length 30 ∧ Hid (Kr t.ops ∧ overB t = false) ∧ t.ops.length ≤ i ∧ Hid (Top w (star (txR b t) (star (MapR mb t.ops) emp)) wr))
  · exact ⟨0, t0, rfl, by omega, hI0, by omega, HT2.out⟩
  · obtain ⟨i, t, rfl, hi, hI, hl, hT⟩ := hrel
    by_cases hlt : i < min xs.length 30
    · have hl1 : (i : Int) < (xs.length : Int) := by omega
      have hl2 : (i : Int) < 30 := by omega
      have hi0 : (0 : Int) ≤ (i : Int) := by omega
      obtain ⟨x, hx⟩ : ∃ x, xs[i]? = some x := ⟨_, List.getElem?_eq_getElem (by omega)⟩
      obtain ⟨_, k2, k3⟩ := HOk.out x (List.mem_of_getElem? hx)
      obtain ⟨ab, off, rfl, hcs⟩ := (HX.out.mod hT.out.m).at hx
      have c0 := hcs 0 _ rfl
      have c1 := hcs 1 _ rfl
      have c2 := hcs 2 _ rfl
      have c3 := hcs 3 _ rfl
      simp only [Nat.add_zero] at c0
      clear hx hcs
      go_upto_region 11 with (go_at_call 15; refine (short_c _ _ (by assumption)).mono ?_; rintro e w' ⟨rfl, rfl⟩)
      have hT2 := hT.out.box (rcA (shR x)) 32
      have HT2 := hid hT2
      have hB := hT2.get
      have d0 : (wr.alloc (.cells (rcA (shR x)) 32)).cell? ⟨wr.heap.size, 0, none⟩ = some (.string (shR x).key) := hB.cell 0
      have d1 : (wr.alloc (.cells (rcA (shR x)) 32)).cell? ⟨wr.heap.size, 1, none⟩ = some (.int .u64 (shR x).ln) := hB.cell 1
      have d2 : (wr.alloc (.cells (rcA (shR x)) 32)).cell? ⟨wr.heap.size, 2, none⟩ = some (.bool (shR x).dl) := hB.cell 2
      have d3 : (wr.alloc (.cells (rcA (shR x)) 32)).cell? ⟨wr.heap.size, 3, none⟩ = some (.string (shR x).vl) := hB.cell 3
      have hdl := hB.lt
      have hsz : (shR x).key.size ≤ 40 := shortB_size x.key
      clear hT2 hB hT c0 c1 c2 c3 k2 k3
      generalize hZ : shR x = y at *
      have e0 : shortB x.key = y.key := by rw [← hZ]; rfl
      have e1 : x.ln = y.ln := by rw [← hZ]; rfl
      have e2 : x.dl = y.dl := by rw [← hZ]; rfl
      have e3 : shortB x.vl = y.vl := by rw [← hZ]; rfl
      rw [e0, e1, e2, e3]
      clear e0 e1 e2 e3 hZ
      generalize wr.alloc (.cells (rcA y) 32) = Y at *
      generalize wr.heap.size = q at *
      obtain ⟨Lm, hMm⟩ := HT2.out.drop.drop.res
      have hlk := run_mapR_lookup Try.underlying43 Try.underlying9 map_zero hMm hI.out.1 (show y.key.size ≤ maxLen by unfold maxLen; omega) true
      simp only [if_true] at hlk
      clear hMm
      go_upto_region 12 with (fail)
      have HTz := hid (HT2.out.alloc (.cells (rcA (getO t.ops y.key)) 32))
      clear hlk d0 d1 d2 d3 hdl HT2
      generalize Y.alloc (.cells (rcA (getO t.ops y.key)) 32) = Z at *
      generalize Y.heap.size = q2 at *
      obtain ⟨d0, d1, d2, d3⟩ := HTz.out.get.rc
      go_wp2_with fail
      refine (HTz.out.swap.call (fun L hL => wrote_c Z b t y L hL hI.out.1 (by omega))).mono ?_
      rintro e w1 ⟨rfl, hT1⟩
      have HT1 := hid hT1.swap
      clear hT1 HTz d0 d1 d2 d3
      obtain ⟨d0, d1, d2, d3⟩ := HT1.out.get.rc
      have df := HT1.out.get.free 1
      have hql := HT1.out.get.lt
      go_upto_region 13 with (fail)
      go_cut [10] from 49 to 74 (fun p wx => p = .bool (mayOk y) ∧ wx = w1)
      case first =>
        as_aux_lemma =>
        have hnk := size_nonS y.key
        by_cases hk1 : 1 ≤ y.key.size
        · have i1 : (1 : Int) ≤ (y.key.size : Int) := by omega
          rw [decide_eq_true hk1] at hnk
          by_cases hk2 : y.key.size ≤ 16
          · have i2 : (y.key.size : Int) ≤ 16 := by omega
            by_cases hv : y.vl.size ≤ 24
            · have i3 : (y.vl.size : Int) ≤ 24 := by omega
              rcases Bool.eq_false_or_eq_true y.dl with hd | hd
              rotate_left
              · have hm : Hid (mayOk y = true) := by show _ = _; simp [mayOk, mayE, hk2, hv, hnk, hd]
                rw [hd] at d2
                clear hnk hk1 hk2 hv hd
                go_wp2
                go_meet
                exact ⟨by rw [hm.out], rfl⟩
              · rw [hd] at d2
                rcases Bool.eq_false_or_eq_true (nonS y.vl) with hnv | hnv
                rotate_left
                · have hm : Hid (mayOk y = true) := by show _ = _; simp [mayOk, mayE, hk2, hv, hnk, hd, hnv]
                  have xnv := nonS_no hnv
                  clear hnk hk1 hk2 hv hd hnv
                  go_wp2
                  go_meet
                  exact ⟨by rw [hm.out], rfl⟩
                · have hm : Hid (mayOk y = false) := by show _ = _; simp [mayOk, mayE, hk2, hv, hnk, hd, hnv]
                  obtain ⟨xnv, ynv⟩ := nonS_yes hnv
                  clear hnk hk1 hk2 hv hd hnv
                  go_wp2
                  go_meet
                  exact ⟨by rw [hm.out], rfl⟩
            · have i3 : ¬ (y.vl.size : Int) ≤ 24 := by omega
              have hm : Hid (mayOk y = false) := by show _ = _; simp [mayOk, mayE, hk2, hv]
              clear hnk hk1 hk2 hv
              go_wp2
              go_meet
              exact ⟨by rw [hm.out], rfl⟩
          · have i2 : ¬ (y.key.size : Int) ≤ 16 := by omega
            have hm : Hid (mayOk y = false) := by show _ = _; simp [mayOk, mayE, hk2]
            clear hnk hk1 hk2
            go_wp2
            go_meet
            exact ⟨by rw [hm.out], rfl⟩
        · have i1 : ¬ (1 : Int) ≤ (y.key.size : Int) := by omega
          rw [decide_eq_false hk1] at hnk
          have hm : Hid (mayOk y = false) := by show _ = _; simp [mayOk, mayE, hnk]; split <;> simp
          clear hnk hk1
          go_wp2
          go_meet
          exact ⟨by rw [hm.out], rfl⟩
      case rest =>
      obtain ⟨rfl, he⟩ := hcut
      subst he
      obtain ⟨Lm, hMm⟩ := HT1.out.drop.drop.res
      have hml := run_mapR_len Try.underlying43 hMm 3
      have HMm := hid hMm
      clear hMm
      have hE0 : wroteE t y = if mayE y ≠ 0 then mayE y else roomE t.ops y.key := by unfold wroteE; rw [hI.out.2]; simp
      have HE0 := hid hE0
      have HW0 : Hid (wroteT t y = if wroteE t y = 0 then { t with ops := putO t.ops { y with ln := 0 } } else t) := rfl
      clear hE0
      go_upto_region 14 with (fail)
      obtain ⟨hb, hhb⟩ : ∃ hb, hasB t.ops y.key = hb := ⟨_, rfl⟩
      obtain ⟨mo, hmo⟩ : ∃ mo, mayOk y = mo := ⟨_, rfl⟩
      obtain ⟨eo, heo⟩ : ∃ eo, wroteE t y = eo := ⟨_, rfl⟩
      rw [hhb, hmo, heo]
      have HC : Hid ((eo = 0 ∧ mo = true ∧ (hb = true ∨ (hb = false ∧ t.ops.length < 6))) ∨ (eo = 11 ∧ mo = true ∧ hb = false ∧ ¬ t.ops.length < 6) ∨ (eo ≠ 0 ∧ mo = false)) := by
        show _
        have hE0 := HE0.out
        rw [heo] at hE0
        by_cases hm0 : mayE y = 0
        · have hm : mo = true := by rw [← hmo]; exact decide_eq_true hm0
          rw [if_neg (by simpa using hm0)] at hE0
          unfold roomE roomB at hE0
          rw [hhb] at hE0
          cases hb
          · by_cases h6 : t.ops.length < 6
            · rw [decide_eq_true h6] at hE0
              simp only [Bool.or_true, if_true] at hE0
              exact Or.inl ⟨hE0, hm, Or.inr ⟨rfl, h6⟩⟩
            · rw [decide_eq_false h6] at hE0
              simp only [Bool.or_false, Bool.false_eq_true, if_false] at hE0
              exact Or.inr (Or.inl ⟨hE0, hm, rfl, h6⟩)
          · simp only [Bool.true_or, if_true] at hE0
            exact Or.inl ⟨hE0, hm, Or.inl rfl⟩
        · have hm : mo = false := by rw [← hmo]; exact decide_eq_false hm0
          rw [if_pos (by simpa using hm0)] at hE0
          exact Or.inr (Or.inr ⟨by rw [hE0]; exact hm0, hm⟩)
      replace HW0 : Hid (wroteT t y = if eo = 0 then { t with ops := putO t.ops { y with ln := 0 } } else t) := by show _ = _; rw [← heo]; exact HW0.out
      clear HE0 hhb hmo heo
      go_cut [97] from 75 to 96 (fun p wx => p = .bool false ∧ wx = wc)
      case first =>
        as_aux_lemma =>
        clear HW0 HT1
        rcases HC.out with ⟨rfl, rfl, rfl | ⟨rfl, h6⟩⟩ | ⟨rfl, rfl, rfl, h6⟩ | ⟨hne, rfl⟩
        · go_wp2
          go_meet
          exact ⟨rfl, rfl⟩
        · have h6i : (t.ops.length : Int) < 6 := by omega
          clear h6
          go_wp2
          go_meet
          exact ⟨rfl, rfl⟩
        · have h6i : ¬ (t.ops.length : Int) < 6 := by omega
          clear h6
          go_wp2
          go_meet
          exact ⟨rfl, rfl⟩
        · have hne1 : (eo == 0) = false := beq_eq_false_iff_ne.2 hne
          clear hne
          go_wp2
          go_meet
          exact ⟨rfl, rfl⟩
      case rest =>
      obtain ⟨rfl, he⟩ := hcut
      subst he
      clear hml HMm HC
      go_upto_if 99 with (fail)
      go_cut [] from 100 to 104 (fun wx => Hid (Top w (star (txR b (wroteT t y)) (star (MapR mb (wroteT t y).ops) emp)) wx))
      case first =>
        as_aux_lemma =>
        by_cases h0 : eo = 0
        · have hWT : Hid (wroteT t y = { t with ops := putO t.ops { y with ln := 0 } }) := by show _ = _; rw [HW0.out, if_pos h0]
          subst h0
          clear HW0
          have hT3 := HT1.out.set 1 (.int .u64 0)
          have HT3 := hid hT3
          have hB3 := hT3.get
          have k0 : (wc.setCell ⟨q, 1, none⟩ (.int .u64 0)).cell? ⟨q, 0, none⟩ = some (.string y.key) := hB3.cell 0
          have k1 : (wc.setCell ⟨q, 1, none⟩ (.int .u64 0)).cell? ⟨q, 1, none⟩ = some (.int .u64 0) := hB3.cell 1
          have k2 : (wc.setCell ⟨q, 1, none⟩ (.int .u64 0)).cell? ⟨q, 2, none⟩ = some (.bool y.dl) := hB3.cell 2
          have k3 : (wc.setCell ⟨q, 1, none⟩ (.int .u64 0)).cell? ⟨q, 3, none⟩ = some (.string y.vl) := hB3.cell 3
          obtain ⟨Lm, hMm, hup⟩ := hT3.drop.swap.map
          have HMm := hid hMm
          have Hup := hid hup
          have hsz2 : y.key.size ≤ maxLen := by unfold maxLen; omega
          clear hT3 hB3 hMm hup HT1
          go_wp2_with (first
            | (at_mapUpdate; refine wpList_mapR rfl _ _ _ 43 rfl 9 32 Try.underlying43 Try.underlying9 mb t.ops Lm rfl HMm.out hI.out.1 { y with ln := 0 } rfl rfl hsz2 ?_; intro w2 hM2 hm2; have HM2 := hid hM2; have Hm2 := hid hm2; clear hM2 hm2)
            | fail)
          go_meet
          have h9 := (Hup.out _ _ HM2.out Hm2.out).swap
          have ho : (wroteT t y).ops = putO t.ops { y with ln := 0 } := by rw [hWT.out]
          rw [ho]
          exact h9
        · have hWT : Hid (wroteT t y = t) := by show _ = _; rw [HW0.out, if_neg h0]
          have hne1 : (eo == 0) = false := beq_eq_false_iff_ne.2 h0
          clear HW0 h0
          go_wp2
          go_meet
          have h9 := HT1.out.drop
          have ho : (wroteT t y).ops = t.ops := by rw [hWT.out]
          rw [ho]
          exact h9
      case rest =>
      have HT5 := hid hcut.out
      have hkr := wroteT_ops t y hI.out.1
      have hov : overB (wroteT t y) = false := by
        rw [HW0.out]
        split
        · exact hI.out.2
        · exact hI.out.2
      have HI' : Hid (Kr (wroteT t y).ops ∧ overB (wroteT t y) = false) := ⟨hkr.1, hov⟩
      have hl' : (wroteT t y).ops.length ≤ i + 1 := by have := hkr.2.1; omega
      clear hkr hov HW0 HT1 hcut d0 d1 d2 d3 df hql hsz hI hl
      generalize wroteT t y = u at *
      obtain ⟨Lt, ht⟩ := HT5.out.res
      have Ht := hid ht
      clear ht
      go_wp2_with fail
      refine (ops_c _ b u Lt Ht.out (by omega)).mono ?_
      rintro e w7 ⟨v, Lo, rfl, ho, hm7, _⟩
      obtain ⟨oa, oc, rfl, _⟩ := ho.val
      have HL := hid (Own.lx rc_lays ho)
      have HT7 := hid (HT5.out.mod hm7)
      clear ho hm7 HT5 Ht
      obtain ⟨Lm, hMm⟩ := HT7.out.drop.res
      have HMm := hid hMm
      have hml := run_mapR_len Try.underlying43 hMm 3
      have hne : ((u.ops.length : Int) != (u.ops.length : Int)) = false := by simp
      obtain ⟨og, rfl⟩ : ∃ og, og = gk := ⟨_, rfl⟩
      clear hMm
      go_wp2
      clear hml hne
      have hg := rec_g
      go_loopg [12] u.ops.length (fun g p wr => ∃ j : Nat, p = .int .i64 j ∧ j + g = u.ops.length ∧ Hid (Mod [] w7 wr))
      · exact ⟨0, rfl, by omega, Mod.refl _ _⟩
      · obtain ⟨j, rfl, hj, hM⟩ := hrel
        by_cases hlj : j < u.ops.length
        · have hj2 : (j : Int) < (u.ops.length : Int) := by omega
          have hj0 : (0 : Int) ≤ (j : Int) := by omega
          obtain ⟨z, hz⟩ : ∃ z, u.ops[j]? = some z := ⟨_, List.getElem?_eq_getElem (by omega)⟩
          have hzm := List.mem_of_getElem? hz
          obtain ⟨gb, go, rfl, hc⟩ := (HL.out.mod hM.out).at hz
          have k0 := hc 0 _ rfl
          have k1 := hc 1 _ rfl
          have k2 := hc 2 _ rfl
          have k3 := hc 3 _ rfl
          simp only [Nat.add_zero] at k0
          have hsz : z.key.size ≤ maxLen := by
            obtain ⟨_, es, cl, _, _, _, h3, h2⟩ := HMm.out
            obtain ⟨e0, he0, e1, _⟩ := h2 z hzm
            obtain ⟨r, _, h4, h5, _⟩ := h3 e0 he0
            rw [e1] at h5
            rw [Value.string.inj h5]
            exact h4
          have hlk := run_mapR_lookup Try.underlying43 Try.underlying9 map_zero (Keep.mod HMm.out (hM.out.drew) (by simp)) HI'.out.1 hsz false
          simp only [Bool.false_eq_true, if_false] at hlk
          rw [getO_of HI'.out.1 hzm] at hlk
          have hn := rec_neq z
          clear hzm hsz hc
          rcases Nat.eq_zero_or_pos j with h0 | h0
          · subst h0
            simp only [Nat.zero_mul, Nat.add_zero] at k0 k1 k2 k3
            clear hz
            go_upto_region 25 with (fail)
            go_region
            all_goals
              go_wp2
              go_roundg (gk - 1)
              case measure => omega
              case rel => exact ⟨0 + 1, by go_num, by omega, hM.out.drew⟩
          · obtain ⟨m, rfl⟩ : ∃ m, j = m + 1 := ⟨j - 1, by omega⟩
            obtain ⟨z', hz'⟩ : ∃ z', u.ops[m]? = some z' := ⟨_, List.getElem?_eq_getElem (by omega)⟩
            have hlt : SL z'.key z.key := by
              obtain ⟨h1, rfl⟩ := List.getElem?_eq_some_iff.1 hz
              obtain ⟨h2, rfl⟩ := List.getElem?_eq_some_iff.1 hz'
              exact List.pairwise_iff_getElem.1 HI'.out.1 m (m + 1) h2 h1 (by omega)
            obtain ⟨gb', go', e0, hd⟩ := (HL.out.mod hM.out).at hz'
            simp only [Option.some.injEq, Addr.mk.injEq, and_true] at e0
            obtain ⟨rfl, rfl⟩ := e0
            have m0 := hd 0 _ rfl
            simp only [Nat.add_zero] at m0
            have hb := blS_yes hlt
            have hm0 : (0 : Int) ≤ (m : Int) := by omega
            have hm1 : (m : Int) < (u.ops.length : Int) := by omega
            have hm2 : (0 : Int) < (m : Int) + 1 := by omega
            clear hlt hz hz' hd h0
            go_upto_region 25 with (fail)
            go_region
            all_goals
              go_wp2
              go_roundg (gk - 1)
              case measure => omega
              case rel => exact ⟨m + 1 + 1, by go_num, by omega, hM.out.drew⟩
        · have hj1 : ¬ (j : Int) < (u.ops.length : Int) := by omega
          go_wp2
          go_roundg (og - 1)
          case measure => omega
          case rel => exact ⟨i + 1, u, by go_num, by omega, HI', hl', hid (HT7.out.mod hM.out)⟩
    · have hm := hT.out.m
      have HmT := hid hm
      clear hm
      rcases (by omega : ¬ i < xs.length ∨ (i < xs.length ∧ ¬ i < 30)) with h1 | ⟨h1, h2⟩
      all_goals
        go_wp2_with (go_at_call 10; refine (works_c _).mono ?_; rintro e w' ⟨rfl, hm⟩; have Hm := hid hm; clear hm)
        go_ret
        exact ⟨rfl, HmT.out.tr Hm.out⟩
end Go.Proofs.Ytocfeeecgpklnaa
