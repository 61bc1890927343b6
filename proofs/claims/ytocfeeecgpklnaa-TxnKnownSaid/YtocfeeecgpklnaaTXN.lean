/- The document's room. -/
import Derived.Test.YtocfeeecgpklnaaTXM
namespace Go.Proofs.Ytocfeeecgpklnaa
set_option linter.unusedVariables false
set_option linter.unusedSimpArgs false
set_option linter.unusedSectionVars false
open Go.RowKit Go.Shelf

theorem none_step {l : List Rc} {k : ByteArray} {i : Nat} {x : Rc} (hA : ∀ j x, j < i → l[j]? = some x → x.key ≠ k) (hx : l[i]? = some x) (hc : ¬ x.key = k) : ∀ j y, j < i + 1 → l[j]? = some y → y.key ≠ k := by
  intro j y hj hy
  rcases Nat.lt_or_ge j i with h | h
  · exact hA j y h hy
  · obtain rfl : j = i := by omega
    rw [hx] at hy; cases hy; exact hc

set_option maxRecDepth 100000 in
set_option maxHeartbeats 1000000 in
theorem rroom_c (w : World) (b : Nat) (t : Tx) (k : ByteArray) (L : List Nat) (h : rxR b t w L) (hl : t.ops.length ≤ 1000) :
    Calls Try.prog 41 #[.pointer (some ⟨b, 0, none⟩), .string k] w fun e w' => e = .returned (.bool (roomB t.ops k)) ∧ w = w' := by
  obtain ⟨v, M, hb, ho, hbM, rfl⟩ := h
  have hbl := hb.lt
  have b10 : w.cell? ⟨b, 10, none⟩ = some v := hb.cell 10
  have HX := hid (Own.lx rc_lays ho)
  obtain ⟨a, cap, rfl, _⟩ := ho.val
  clear hb ho
  generalize t.ops = l at *
  go_enter Try.func41, Try.ntmps41
  go_wp2
  go_loopg [5] l.length (fun g p wr => ∃ i : Nat, p = .int .i64 i ∧ i + g = l.length ∧ Hid (∀ j x, j < i → l[j]? = some x → x.key ≠ k) ∧ w = wr)
  · exact ⟨0, rfl, by omega, hid (by intro j x h; omega), rfl⟩
  · obtain ⟨i, rfl, hi, hA, rfl⟩ := hrel
    by_cases hlt : i < l.length
    · have hlti : (i : Int) < (l.length : Int) := by omega
      have hi0 : (0 : Int) ≤ (i : Int) := by omega
      obtain ⟨x, hx⟩ : ∃ x, l[i]? = some x := ⟨_, List.getElem?_eq_getElem (by omega)⟩
      obtain ⟨ab, off, rfl, hc⟩ := HX.out.at hx
      have c0 := hc 0 _ rfl
      simp only [Nat.add_zero] at c0
      have Hx := hid hx
      clear hx hc
      by_cases hc : x.key = k
      · have ho := (eqS_iff x.key k).2 hc
        have hR : Hid (roomB l k = true) := by show _ = _; unfold roomB; rw [(hasB_iff l k).2 ⟨x, List.mem_of_getElem? Hx.out, hc⟩]; rfl
        clear hc
        go_wp2
        go_ret
        exact ⟨by rw [hR.out]; rfl, rfl⟩
      · have ho := eqS_no hc
        have Hc := hid hc
        clear hc
        go_wp2
        go_roundg (gk - 1)
        case measure => omega
        case rel => exact ⟨i + 1, by go_num, by omega, hid (none_step hA.out Hx.out Hc.out), rfl⟩
    · have hlti : ¬ (i : Int) < (l.length : Int) := by omega
      have hN : hasB l k = false := by
        cases hq : hasB l k
        · rfl
        · obtain ⟨x, hx, e⟩ := (hasB_iff l k).1 hq
          obtain ⟨j, hj, rfl⟩ := List.getElem_of_mem hx
          exact absurd e (hA.out j _ (by omega) (List.getElem?_eq_getElem hj))
      have hR : Hid (roomB l k = decide ((l.length : Int) < 6)) := by show _ = _; unfold roomB; rw [hN]; simp; omega
      clear hN
      go_wp2
      go_ret
      exact ⟨by rw [hR.out]; rfl, rfl⟩

/-- Which calls are no ones. -/
theorem rightE_not (ts : Nat) (c : Cl) : rightB ts c = (isH c.kind && decide (c.ts = ts) && (!nonS c.key || keyH c.kind) && (!nonS c.hi || hiH c.kind) && (!nonS c.val || valH c.kind) && (nonS c.key || !keyH c.kind || hiH c.kind)) := rfl
theorem nonS_eq {s : ByteArray} {u : Bool} (h : nonS s = u) : (s.toList == []) = !u := by
  subst h; unfold nonS; cases s.toList <;> rfl
theorem nonS_ne {s : ByteArray} {u : Bool} (h : nonS s = u) : (s.toList != []) = u := by
  subst h; unfold nonS; cases s.toList <;> rfl

theorem rcall_lit (X : World) (b : Nat) (t : Tx) (c : Cl) (now : Nat) (v : Value) (T : TypeId) (h : Blk X b (rxC t v) T) : Blk ((((((((X.setCell ⟨b, 2, none⟩ (.int .i64 ((t.calls : Int) + 1))).setCell ⟨b, 3, none⟩ (.bool true)).setCell ⟨b, 4, none⟩ (.int .i64 c.kind)).setCell ⟨b, 5, none⟩ (.int .u64 c.ts)).setCell ⟨b, 6, none⟩ (.string c.key)).setCell ⟨b, 7, none⟩ (.string c.hi)).setCell ⟨b, 8, none⟩ (.string c.val)).setCell ⟨b, 9, none⟩ (.int .u64 now)) b #[.int .u64 t.ts, .int .i64 t.state, .int .i64 ((t.calls : Int) + 1), .bool true, .int .i64 c.kind, .int .u64 c.ts, .string c.key, .string c.hi, .string c.val, .int .u64 now, v, .int .u64 t.need] T := by
  have h0 : Blk X b #[.int .u64 t.ts, .int .i64 t.state, .int .i64 t.calls, .bool t.under, .int .i64 t.call.kind, .int .u64 t.call.ts, .string t.call.key, .string t.call.hi, .string t.call.val, .int .u64 t.at_, v, .int .u64 t.need] T := h
  have h1 : Blk (X.setCell ⟨b, 2, none⟩ (.int .i64 ((t.calls : Int) + 1))) b #[.int .u64 t.ts, .int .i64 t.state, .int .i64 ((t.calls : Int) + 1), .bool t.under, .int .i64 t.call.kind, .int .u64 t.call.ts, .string t.call.key, .string t.call.hi, .string t.call.val, .int .u64 t.at_, v, .int .u64 t.need] T := h0.set 2 (.int .i64 ((t.calls : Int) + 1))
  clear h0 h
  have h2 : Blk ((X.setCell ⟨b, 2, none⟩ (.int .i64 ((t.calls : Int) + 1))).setCell ⟨b, 3, none⟩ (.bool true)) b #[.int .u64 t.ts, .int .i64 t.state, .int .i64 ((t.calls : Int) + 1), .bool true, .int .i64 t.call.kind, .int .u64 t.call.ts, .string t.call.key, .string t.call.hi, .string t.call.val, .int .u64 t.at_, v, .int .u64 t.need] T := h1.set 3 (.bool true)
  clear h1
  have h3 : Blk (((X.setCell ⟨b, 2, none⟩ (.int .i64 ((t.calls : Int) + 1))).setCell ⟨b, 3, none⟩ (.bool true)).setCell ⟨b, 4, none⟩ (.int .i64 c.kind)) b #[.int .u64 t.ts, .int .i64 t.state, .int .i64 ((t.calls : Int) + 1), .bool true, .int .i64 c.kind, .int .u64 t.call.ts, .string t.call.key, .string t.call.hi, .string t.call.val, .int .u64 t.at_, v, .int .u64 t.need] T := h2.set 4 (.int .i64 c.kind)
  clear h2
  have h4 : Blk ((((X.setCell ⟨b, 2, none⟩ (.int .i64 ((t.calls : Int) + 1))).setCell ⟨b, 3, none⟩ (.bool true)).setCell ⟨b, 4, none⟩ (.int .i64 c.kind)).setCell ⟨b, 5, none⟩ (.int .u64 c.ts)) b #[.int .u64 t.ts, .int .i64 t.state, .int .i64 ((t.calls : Int) + 1), .bool true, .int .i64 c.kind, .int .u64 c.ts, .string t.call.key, .string t.call.hi, .string t.call.val, .int .u64 t.at_, v, .int .u64 t.need] T := h3.set 5 (.int .u64 c.ts)
  clear h3
  have h5 : Blk (((((X.setCell ⟨b, 2, none⟩ (.int .i64 ((t.calls : Int) + 1))).setCell ⟨b, 3, none⟩ (.bool true)).setCell ⟨b, 4, none⟩ (.int .i64 c.kind)).setCell ⟨b, 5, none⟩ (.int .u64 c.ts)).setCell ⟨b, 6, none⟩ (.string c.key)) b #[.int .u64 t.ts, .int .i64 t.state, .int .i64 ((t.calls : Int) + 1), .bool true, .int .i64 c.kind, .int .u64 c.ts, .string c.key, .string t.call.hi, .string t.call.val, .int .u64 t.at_, v, .int .u64 t.need] T := h4.set 6 (.string c.key)
  clear h4
  have h6 : Blk ((((((X.setCell ⟨b, 2, none⟩ (.int .i64 ((t.calls : Int) + 1))).setCell ⟨b, 3, none⟩ (.bool true)).setCell ⟨b, 4, none⟩ (.int .i64 c.kind)).setCell ⟨b, 5, none⟩ (.int .u64 c.ts)).setCell ⟨b, 6, none⟩ (.string c.key)).setCell ⟨b, 7, none⟩ (.string c.hi)) b #[.int .u64 t.ts, .int .i64 t.state, .int .i64 ((t.calls : Int) + 1), .bool true, .int .i64 c.kind, .int .u64 c.ts, .string c.key, .string c.hi, .string t.call.val, .int .u64 t.at_, v, .int .u64 t.need] T := h5.set 7 (.string c.hi)
  clear h5
  have h7 : Blk (((((((X.setCell ⟨b, 2, none⟩ (.int .i64 ((t.calls : Int) + 1))).setCell ⟨b, 3, none⟩ (.bool true)).setCell ⟨b, 4, none⟩ (.int .i64 c.kind)).setCell ⟨b, 5, none⟩ (.int .u64 c.ts)).setCell ⟨b, 6, none⟩ (.string c.key)).setCell ⟨b, 7, none⟩ (.string c.hi)).setCell ⟨b, 8, none⟩ (.string c.val)) b #[.int .u64 t.ts, .int .i64 t.state, .int .i64 ((t.calls : Int) + 1), .bool true, .int .i64 c.kind, .int .u64 c.ts, .string c.key, .string c.hi, .string c.val, .int .u64 t.at_, v, .int .u64 t.need] T := h6.set 8 (.string c.val)
  clear h6
  have h8 : Blk ((((((((X.setCell ⟨b, 2, none⟩ (.int .i64 ((t.calls : Int) + 1))).setCell ⟨b, 3, none⟩ (.bool true)).setCell ⟨b, 4, none⟩ (.int .i64 c.kind)).setCell ⟨b, 5, none⟩ (.int .u64 c.ts)).setCell ⟨b, 6, none⟩ (.string c.key)).setCell ⟨b, 7, none⟩ (.string c.hi)).setCell ⟨b, 8, none⟩ (.string c.val)).setCell ⟨b, 9, none⟩ (.int .u64 now)) b #[.int .u64 t.ts, .int .i64 t.state, .int .i64 ((t.calls : Int) + 1), .bool true, .int .i64 c.kind, .int .u64 c.ts, .string c.key, .string c.hi, .string c.val, .int .u64 now, v, .int .u64 t.need] T := h7.set 9 (.int .u64 now)
  clear h7
  exact h8
theorem rcall_mod (X : World) (b : Nat) (t : Tx) (c : Cl) (now : Nat) : Mod [b] X ((((((((X.setCell ⟨b, 2, none⟩ (.int .i64 ((t.calls : Int) + 1))).setCell ⟨b, 3, none⟩ (.bool true)).setCell ⟨b, 4, none⟩ (.int .i64 c.kind)).setCell ⟨b, 5, none⟩ (.int .u64 c.ts)).setCell ⟨b, 6, none⟩ (.string c.key)).setCell ⟨b, 7, none⟩ (.string c.hi)).setCell ⟨b, 8, none⟩ (.string c.val)).setCell ⟨b, 9, none⟩ (.int .u64 now)) :=
  ((((((((Mod.refl [b] X).setCell (p := ⟨b, 2, none⟩) (Or.inl (by simp)) _).setCell (p := ⟨b, 3, none⟩) (Or.inl (by simp)) _).setCell (p := ⟨b, 4, none⟩) (Or.inl (by simp)) _).setCell (p := ⟨b, 5, none⟩) (Or.inl (by simp)) _).setCell (p := ⟨b, 6, none⟩) (Or.inl (by simp)) _).setCell (p := ⟨b, 7, none⟩) (Or.inl (by simp)) _).setCell (p := ⟨b, 8, none⟩) (Or.inl (by simp)) _).setCell (p := ⟨b, 9, none⟩) (Or.inl (by simp)) _
theorem rcall_fit (t : Tx) (c : Cl) (now : Nat) (v : Value) : #[.int .u64 t.ts, .int .i64 t.state, .int .i64 ((t.calls : Int) + 1), .bool true, .int .i64 c.kind, .int .u64 c.ts, .string c.key, .string c.hi, .string c.val, .int .u64 now, v, .int .u64 t.need] = rxC { t with calls := t.calls + 1, under := true, call := c, at_ := now } v := rfl

set_option maxRecDepth 100000 in
set_option maxHeartbeats 4000000 in
theorem rcall_c (w : World) (b : Nat) (t : Tx) (c : Cl) (now : Nat) (L : List Nat) (h : rxR b t w L) (hl : t.ops.length ≤ 1000) (hc : t.calls ≤ 1000000) :
    Calls Try.prog 13 #[.pointer (some ⟨b, 0, none⟩), clV c, .int .u64 now] w (Says w L (.tuple #[.int .i64 (callN t c), .int .i64 (callE t c)]) (rxR b (callT t c now))) := by
  have hW := (Mod.refl [] w).alloc (.cells (clC c) 24)
  have hp := Blk.new w (clC c) 24
  have HLp := hid (Keep.lt h)
  have HT := hid (Keep.mod h hW (by simp))
  have q0 := hp.cell 0
  have q1 := hp.cell 1
  have q2 := hp.cell 2
  have q3 := hp.cell 3
  have q4 := hp.cell 4
  have hpl := hp.lt
  simp only [List.getElem?_toArray, List.getElem?_cons_zero, List.getElem?_cons_succ] at q0 q1 q2 q3 q4
  have HM := hid hW
  clear hW hp h
  go_enter Try.func13, Try.ntmps13
  go_upto_region 1 with (fail)
  generalize w.alloc (.cells (clC c) 24) = W at *
  generalize hpp : w.heap.size = p at *
  have Hp := hid hpp
  clear hpp
  have fin : ∀ X, Mod [] W X → ∀ q : Int, callE t c = q → q ≠ 0 → Says w L (.tuple #[.int .i64 (callN t c), .int .i64 (callE t c)]) (rxR b (callT t c now)) (.returned (.tuple #[.int .i64 0, .int .i64 q])) X := by
    intro X hX q hq hq0
    have h1 : callT t c now = t := by unfold callT; rw [if_neg (by rw [hq]; exact hq0)]
    have h2 : callN t c = 0 := by unfold callN; rw [if_neg (by rw [hq]; exact hq0)]
    exact ⟨by rw [h2, hq]; rfl, L, by rw [h1]; exact Keep.mod HT.out hX (by simp), (HM.out.tr hX).mono (by simp), fun k hk => Or.inl hk⟩
  have HF := hid fin
  clear fin
  rcases hov : overB t with _ | _
  · go_upto_region 3 with (go_at_call 39; refine (over_c W b t L HT.out).mono ?_; rintro e w' ⟨rfl, rfl⟩; rw [hov])
    have HTW := HT.out
    obtain ⟨v, M, hb, ho, hbM, rfl⟩ := HTW
    have hbl := hb.lt
    have b0 : W.cell? ⟨b, 0, none⟩ = some (.int .u64 t.ts) := hb.cell 0
    have b3 : W.cell? ⟨b, 3, none⟩ = some (.bool t.under) := hb.cell 3
    have HB := hid hb
    have HO := hid ho
    clear hb ho
    rcases hu : t.under with _ | _
    · rw [hu] at b3
      have hR : Hid (rightB t.ts c = (isH c.kind && decide (c.ts = t.ts) && (!nonS c.key || keyH c.kind) && (!nonS c.hi || hiH c.kind) && (!nonS c.val || valH c.kind) && (nonS c.key || !keyH c.kind || hiH c.kind))) := rightE_not _ _
      go_upto_region 6 with (go_at_call 40; refine (has_c W c.kind).mono ?_; rintro e w' ⟨rfl, rfl⟩)
      generalize keyH c.kind = kk at *
      generalize hiH c.kind = kh at *
      generalize valH c.kind = kv at *
      generalize isH c.kind = ki at *
      go_cut [75] from 26 to 75 (fun z wx => z = .bool (!rightB t.ts c) ∧ ∃ n, wx = W.drewN n)
      case first =>
        generalize hdd : decide (c.ts = t.ts) = dd at hR
        generalize hnk : nonS c.key = nk at hR
        generalize hnh : nonS c.hi = nh at hR
        generalize hnv : nonS c.val = nv at hR
        cases ki
        · (go_quiet (fail); all_goals (go_wp2_with fail; go_meet); all_goals exact ⟨by rw [hR.out]; rfl, _, rfl⟩)
        · cases dd
          · have e1 : ((c.ts : Int) != t.ts) = true := bne_iff_ne.2 (by have := of_decide_eq_false hdd; omega)
            clear hdd
            (go_quiet (fail); all_goals (go_wp2_with fail; go_meet); all_goals exact ⟨by rw [hR.out]; rfl, _, rfl⟩)
          · have e1 : ((c.ts : Int) != t.ts) = false := bne_eq_false_iff_eq.2 (by have := of_decide_eq_true hdd; omega)
            clear hdd
            cases kk
            · cases nk
              · have xnk := nonS_no hnk
                clear hnk
                cases kh
                · cases nh
                  · have xnh := nonS_no hnh
                    clear hnh
                    cases kv
                    · cases nv
                      · have xnv := nonS_no hnv
                        clear hnv
                        (go_quiet (fail); all_goals (go_wp2_with fail; go_meet); all_goals exact ⟨by rw [hR.out]; rfl, _, rfl⟩)
                      · obtain ⟨xnv, ynv⟩ := nonS_yes hnv
                        clear hnv
                        (go_quiet (fail); all_goals (go_wp2_with fail; go_meet); all_goals exact ⟨by rw [hR.out]; rfl, _, rfl⟩)
                    · cases nv
                      · have xnv := nonS_no hnv
                        clear hnv
                        (go_quiet (fail); all_goals (go_wp2_with fail; go_meet); all_goals exact ⟨by rw [hR.out]; rfl, _, rfl⟩)
                      · obtain ⟨xnv, ynv⟩ := nonS_yes hnv
                        clear hnv
                        (go_quiet (fail); all_goals (go_wp2_with fail; go_meet); all_goals exact ⟨by rw [hR.out]; rfl, _, rfl⟩)
                  · obtain ⟨xnh, ynh⟩ := nonS_yes hnh
                    clear hnh
                    (go_quiet (fail); all_goals (go_wp2_with fail; go_meet); all_goals exact ⟨by rw [hR.out]; rfl, _, rfl⟩)
                · cases nh
                  · have xnh := nonS_no hnh
                    clear hnh
                    cases kv
                    · cases nv
                      · have xnv := nonS_no hnv
                        clear hnv
                        (go_quiet (fail); all_goals (go_wp2_with fail; go_meet); all_goals exact ⟨by rw [hR.out]; rfl, _, rfl⟩)
                      · obtain ⟨xnv, ynv⟩ := nonS_yes hnv
                        clear hnv
                        (go_quiet (fail); all_goals (go_wp2_with fail; go_meet); all_goals exact ⟨by rw [hR.out]; rfl, _, rfl⟩)
                    · cases nv
                      · have xnv := nonS_no hnv
                        clear hnv
                        (go_quiet (fail); all_goals (go_wp2_with fail; go_meet); all_goals exact ⟨by rw [hR.out]; rfl, _, rfl⟩)
                      · obtain ⟨xnv, ynv⟩ := nonS_yes hnv
                        clear hnv
                        (go_quiet (fail); all_goals (go_wp2_with fail; go_meet); all_goals exact ⟨by rw [hR.out]; rfl, _, rfl⟩)
                  · obtain ⟨xnh, ynh⟩ := nonS_yes hnh
                    clear hnh
                    cases kv
                    · cases nv
                      · have xnv := nonS_no hnv
                        clear hnv
                        (go_quiet (fail); all_goals (go_wp2_with fail; go_meet); all_goals exact ⟨by rw [hR.out]; rfl, _, rfl⟩)
                      · obtain ⟨xnv, ynv⟩ := nonS_yes hnv
                        clear hnv
                        (go_quiet (fail); all_goals (go_wp2_with fail; go_meet); all_goals exact ⟨by rw [hR.out]; rfl, _, rfl⟩)
                    · cases nv
                      · have xnv := nonS_no hnv
                        clear hnv
                        (go_quiet (fail); all_goals (go_wp2_with fail; go_meet); all_goals exact ⟨by rw [hR.out]; rfl, _, rfl⟩)
                      · obtain ⟨xnv, ynv⟩ := nonS_yes hnv
                        clear hnv
                        (go_quiet (fail); all_goals (go_wp2_with fail; go_meet); all_goals exact ⟨by rw [hR.out]; rfl, _, rfl⟩)
              · obtain ⟨xnk, ynk⟩ := nonS_yes hnk
                clear hnk
                (go_quiet (fail); all_goals (go_wp2_with fail; go_meet); all_goals exact ⟨by rw [hR.out]; rfl, _, rfl⟩)
            · cases nk
              · have xnk := nonS_no hnk
                clear hnk
                cases kh
                · cases nh
                  · have xnh := nonS_no hnh
                    clear hnh
                    cases kv
                    · cases nv
                      · have xnv := nonS_no hnv
                        clear hnv
                        (go_quiet (fail); all_goals (go_wp2_with fail; go_meet); all_goals exact ⟨by rw [hR.out]; rfl, _, rfl⟩)
                      · obtain ⟨xnv, ynv⟩ := nonS_yes hnv
                        clear hnv
                        (go_quiet (fail); all_goals (go_wp2_with fail; go_meet); all_goals exact ⟨by rw [hR.out]; rfl, _, rfl⟩)
                    · cases nv
                      · have xnv := nonS_no hnv
                        clear hnv
                        (go_quiet (fail); all_goals (go_wp2_with fail; go_meet); all_goals exact ⟨by rw [hR.out]; rfl, _, rfl⟩)
                      · obtain ⟨xnv, ynv⟩ := nonS_yes hnv
                        clear hnv
                        (go_quiet (fail); all_goals (go_wp2_with fail; go_meet); all_goals exact ⟨by rw [hR.out]; rfl, _, rfl⟩)
                  · obtain ⟨xnh, ynh⟩ := nonS_yes hnh
                    clear hnh
                    (go_quiet (fail); all_goals (go_wp2_with fail; go_meet); all_goals exact ⟨by rw [hR.out]; rfl, _, rfl⟩)
                · cases nh
                  · have xnh := nonS_no hnh
                    clear hnh
                    cases kv
                    · cases nv
                      · have xnv := nonS_no hnv
                        clear hnv
                        (go_quiet (fail); all_goals (go_wp2_with fail; go_meet); all_goals exact ⟨by rw [hR.out]; rfl, _, rfl⟩)
                      · obtain ⟨xnv, ynv⟩ := nonS_yes hnv
                        clear hnv
                        (go_quiet (fail); all_goals (go_wp2_with fail; go_meet); all_goals exact ⟨by rw [hR.out]; rfl, _, rfl⟩)
                    · cases nv
                      · have xnv := nonS_no hnv
                        clear hnv
                        (go_quiet (fail); all_goals (go_wp2_with fail; go_meet); all_goals exact ⟨by rw [hR.out]; rfl, _, rfl⟩)
                      · obtain ⟨xnv, ynv⟩ := nonS_yes hnv
                        clear hnv
                        (go_quiet (fail); all_goals (go_wp2_with fail; go_meet); all_goals exact ⟨by rw [hR.out]; rfl, _, rfl⟩)
                  · obtain ⟨xnh, ynh⟩ := nonS_yes hnh
                    clear hnh
                    cases kv
                    · cases nv
                      · have xnv := nonS_no hnv
                        clear hnv
                        (go_quiet (fail); all_goals (go_wp2_with fail; go_meet); all_goals exact ⟨by rw [hR.out]; rfl, _, rfl⟩)
                      · obtain ⟨xnv, ynv⟩ := nonS_yes hnv
                        clear hnv
                        (go_quiet (fail); all_goals (go_wp2_with fail; go_meet); all_goals exact ⟨by rw [hR.out]; rfl, _, rfl⟩)
                    · cases nv
                      · have xnv := nonS_no hnv
                        clear hnv
                        (go_quiet (fail); all_goals (go_wp2_with fail; go_meet); all_goals exact ⟨by rw [hR.out]; rfl, _, rfl⟩)
                      · obtain ⟨xnv, ynv⟩ := nonS_yes hnv
                        clear hnv
                        (go_quiet (fail); all_goals (go_wp2_with fail; go_meet); all_goals exact ⟨by rw [hR.out]; rfl, _, rfl⟩)
              · obtain ⟨xnk, ynk⟩ := nonS_yes hnk
                clear hnk
                cases kh
                · cases nh
                  · have xnh := nonS_no hnh
                    clear hnh
                    cases kv
                    · cases nv
                      · have xnv := nonS_no hnv
                        clear hnv
                        (go_quiet (fail); all_goals (go_wp2_with fail; go_meet); all_goals exact ⟨by rw [hR.out]; rfl, _, rfl⟩)
                      · obtain ⟨xnv, ynv⟩ := nonS_yes hnv
                        clear hnv
                        (go_quiet (fail); all_goals (go_wp2_with fail; go_meet); all_goals exact ⟨by rw [hR.out]; rfl, _, rfl⟩)
                    · cases nv
                      · have xnv := nonS_no hnv
                        clear hnv
                        (go_quiet (fail); all_goals (go_wp2_with fail; go_meet); all_goals exact ⟨by rw [hR.out]; rfl, _, rfl⟩)
                      · obtain ⟨xnv, ynv⟩ := nonS_yes hnv
                        clear hnv
                        (go_quiet (fail); all_goals (go_wp2_with fail; go_meet); all_goals exact ⟨by rw [hR.out]; rfl, _, rfl⟩)
                  · obtain ⟨xnh, ynh⟩ := nonS_yes hnh
                    clear hnh
                    (go_quiet (fail); all_goals (go_wp2_with fail; go_meet); all_goals exact ⟨by rw [hR.out]; rfl, _, rfl⟩)
                · cases nh
                  · have xnh := nonS_no hnh
                    clear hnh
                    cases kv
                    · cases nv
                      · have xnv := nonS_no hnv
                        clear hnv
                        (go_quiet (fail); all_goals (go_wp2_with fail; go_meet); all_goals exact ⟨by rw [hR.out]; rfl, _, rfl⟩)
                      · obtain ⟨xnv, ynv⟩ := nonS_yes hnv
                        clear hnv
                        (go_quiet (fail); all_goals (go_wp2_with fail; go_meet); all_goals exact ⟨by rw [hR.out]; rfl, _, rfl⟩)
                    · cases nv
                      · have xnv := nonS_no hnv
                        clear hnv
                        (go_quiet (fail); all_goals (go_wp2_with fail; go_meet); all_goals exact ⟨by rw [hR.out]; rfl, _, rfl⟩)
                      · obtain ⟨xnv, ynv⟩ := nonS_yes hnv
                        clear hnv
                        (go_quiet (fail); all_goals (go_wp2_with fail; go_meet); all_goals exact ⟨by rw [hR.out]; rfl, _, rfl⟩)
                  · obtain ⟨xnh, ynh⟩ := nonS_yes hnh
                    clear hnh
                    cases kv
                    · cases nv
                      · have xnv := nonS_no hnv
                        clear hnv
                        (go_quiet (fail); all_goals (go_wp2_with fail; go_meet); all_goals exact ⟨by rw [hR.out]; rfl, _, rfl⟩)
                      · obtain ⟨xnv, ynv⟩ := nonS_yes hnv
                        clear hnv
                        (go_quiet (fail); all_goals (go_wp2_with fail; go_meet); all_goals exact ⟨by rw [hR.out]; rfl, _, rfl⟩)
                    · cases nv
                      · have xnv := nonS_no hnv
                        clear hnv
                        (go_quiet (fail); all_goals (go_wp2_with fail; go_meet); all_goals exact ⟨by rw [hR.out]; rfl, _, rfl⟩)
                      · obtain ⟨xnv, ynv⟩ := nonS_yes hnv
                        clear hnv
                        (go_quiet (fail); all_goals (go_wp2_with fail; go_meet); all_goals exact ⟨by rw [hR.out]; rfl, _, rfl⟩)
      case rest =>
        obtain ⟨rfl, n, rfl⟩ := hcut
        have hmn := (Mod.refl [] W).drewN n
        have HMn := hid hmn
        have d0 := hmn.cellSome q0 (by simp)
        have d1 := hmn.cellSome q1 (by simp)
        have d2 := hmn.cellSome q2 (by simp)
        have d3 := hmn.cellSome q3 (by simp)
        have d4 := hmn.cellSome q4 (by simp)
        have HTn := hid (Keep.mod HT.out hmn (by simp))
        have hbn := Keep.lt HTn.out b (by simp)
        have hpn : p < (W.drewN n).heap.size := Nat.lt_of_lt_of_le hpl hmn.size
        have HCE : Hid (callE t c = firstI 0 0 (if rightB t.ts c then 0 else 2) (shortE c) (roomC t c)) := by show _ = _; unfold callE liveE idleE rightE; rw [hov, hu]; rfl
        clear hmn q0 q1 q2 q3 q4 hbl b0 b3 HB HO hR hpl hov hu
        generalize W.drewN n = X at *
        rcases hr : rightB t.ts c with _ | _
        · have hq : Hid (callE t c = 2) := by show _ = _; rw [HCE.out, hr]; simp [firstI]
          clear hr
          go_wp2
          go_ret2
          exact HF.out _ HMn.out 2 hq.out (by decide)
        · rw [hr] at HCE
          clear hr
          by_cases hsz : c.key.size ≤ 16 ∧ c.hi.size ≤ 16 ∧ c.val.size ≤ 24
          · have HC2 : Hid (callE t c = roomC t c) := by show _ = _; rw [HCE.out]; unfold shortE; rw [if_pos hsz]; simp only [firstI]; simp
            have s1 : ¬ (16 : Int) < c.key.size := by omega
            have s2 : ¬ (16 : Int) < c.hi.size := by omega
            have s3 : ¬ (24 : Int) < c.val.size := by omega
            clear hsz HCE
            go_upto_region 10 with (fail)
            go_cut [106] from 92 to 106 (fun z wx => z = .bool (decide (c.kind = 3 ∨ c.kind = 4) && !roomB t.ops c.key) ∧ wx = X)
            case first =>
              by_cases h3 : c.kind = 3
              · have e3 : (c.kind == 3) = true := beq_iff_eq.2 h3
                have hz : Hid ((decide (c.kind = 3 ∨ c.kind = 4) && !roomB t.ops c.key) = !roomB t.ops c.key) := by show _ = _; simp [h3]
                clear h3
                go_wp2_with (go_at_call 41; refine (rroom_c X b t c.key _ HTn.out hl).mono ?_; rintro e w' ⟨rfl, rfl⟩)
                go_meet
                exact ⟨by rw [hz.out], rfl⟩
              · have e3 : (c.kind == 3) = false := beq_eq_false_iff_ne.2 h3
                by_cases h4 : c.kind = 4
                · have e4 : (c.kind == 4) = true := beq_iff_eq.2 h4
                  have hz : Hid ((decide (c.kind = 3 ∨ c.kind = 4) && !roomB t.ops c.key) = !roomB t.ops c.key) := by show _ = _; simp [h4]
                  clear h3 h4
                  go_wp2_with (go_at_call 41; refine (rroom_c X b t c.key _ HTn.out hl).mono ?_; rintro e w' ⟨rfl, rfl⟩)
                  go_meet
                  exact ⟨by rw [hz.out], rfl⟩
                · have e4 : (c.kind == 4) = false := beq_eq_false_iff_ne.2 h4
                  have hz : Hid ((decide (c.kind = 3 ∨ c.kind = 4) && !roomB t.ops c.key) = false) := by show _ = _; simp [h3, h4]
                  clear h3 h4
                  go_wp2
                  go_meet
                  exact ⟨by rw [hz.out], rfl⟩
            case rest =>
              obtain ⟨rfl, he⟩ := hcut
              obtain rfl : X = wc := he.symm
              have HC3 : Hid (callE t c = if (decide (c.kind = 3 ∨ c.kind = 4) && !roomB t.ops c.key) then 11 else 0) := by
                show _ = _
                rw [HC2.out]; unfold roomC roomE
                by_cases h : c.kind = 3 ∨ c.kind = 4
                · rw [if_pos h, decide_eq_true h]; cases roomB t.ops c.key <;> rfl
                · rw [if_neg h, decide_eq_false h]; rfl
              clear HC2
              generalize (decide (c.kind = 3 ∨ c.kind = 4) && !roomB t.ops c.key) = zz at *
              cases zz
              · have HTX := HTn.out
                obtain ⟨v', M', hb, ho, hbM', hLL⟩ := HTX
                obtain rfl : M = M' := by simpa using hLL
                have b2 : X.cell? ⟨b, 2, none⟩ = some (.int .i64 t.calls) := hb.cell 2
                have b3 : X.cell? ⟨b, 3, none⟩ = some (.bool t.under) := hb.cell 3
                have b4 : X.cell? ⟨b, 4, none⟩ = some (.int .i64 t.call.kind) := hb.cell 4
                have b5 : X.cell? ⟨b, 5, none⟩ = some (.int .u64 t.call.ts) := hb.cell 5
                have b6 : X.cell? ⟨b, 6, none⟩ = some (.string t.call.key) := hb.cell 6
                have b7 : X.cell? ⟨b, 7, none⟩ = some (.string t.call.hi) := hb.cell 7
                have b8 : X.cell? ⟨b, 8, none⟩ = some (.string t.call.val) := hb.cell 8
                have b9 : X.cell? ⟨b, 9, none⟩ = some (.int .u64 t.at_) := hb.cell 9
                have f2 := hb.free 2
                have f3 := hb.free 3
                have f4 := hb.free 4
                have f5 := hb.free 5
                have f6 := hb.free 6
                have f7 := hb.free 7
                have f8 := hb.free 8
                have f9 := hb.free 9
                have hbp : b < p := HLp.out b (by simp)
                have HBX := hid hb
                have HOX := hid ho
                have hcl : (t.calls : Int) + 1 ≤ 1000001 := by omega
                clear hb ho hc
                go_upto_region 16 with (fail)
                have HBY := hid (rcall_lit X b t c now v' _ HBX.out)
                have HMY := hid (rcall_mod X b t c now)
                rw [rcall_fit] at HBY
                have g0 : ((((((((X.setCell ⟨b, 2, none⟩ (.int .i64 ((t.calls : Int) + 1))).setCell ⟨b, 3, none⟩ (.bool true)).setCell ⟨b, 4, none⟩ (.int .i64 c.kind)).setCell ⟨b, 5, none⟩ (.int .u64 c.ts)).setCell ⟨b, 6, none⟩ (.string c.key)).setCell ⟨b, 7, none⟩ (.string c.hi)).setCell ⟨b, 8, none⟩ (.string c.val)).setCell ⟨b, 9, none⟩ (.int .u64 now)).cell? ⟨p, 0, none⟩ = some (.int .i64 c.kind) := by go_simp
                clear b2 b3 b4 b5 b6 b7 b8 b9 f2 f3 f4 f5 f6 f7 f8 f9 d0 d1 d2 d3 d4 s1 s2 s3 hpn hbn HTn HBX
                generalize ((((((((X.setCell ⟨b, 2, none⟩ (.int .i64 ((t.calls : Int) + 1))).setCell ⟨b, 3, none⟩ (.bool true)).setCell ⟨b, 4, none⟩ (.int .i64 c.kind)).setCell ⟨b, 5, none⟩ (.int .u64 c.ts)).setCell ⟨b, 6, none⟩ (.string c.key)).setCell ⟨b, 7, none⟩ (.string c.hi)).setCell ⟨b, 8, none⟩ (.string c.val)).setCell ⟨b, 9, none⟩ (.int .u64 now)) = Y at *
                have hbY := HBY.out.lt
                have y1 : Y.cell? ⟨b, 1, none⟩ = some (.int .i64 t.state) := HBY.out.cell 1
                have y2 : Y.cell? ⟨b, 2, none⟩ = some (.int .i64 ((t.calls : Int) + 1)) := HBY.out.cell 2
                have z1 := HBY.out.free 1
                have hE : Hid (callE t c = 0) := by show _ = _; rw [HC3.out]; rfl
                have hN : Hid (callN t c = t.calls + 1) := by show _ = _; unfold callN; rw [if_pos hE.out]
                have HmY := hid ((((HM.out.tr HMn.out).mono (m := b :: M) (by simp)).trans HMY.out (fun x hx _ => hx) (fun x hx _ => by simp at hx; simp [hx])))
                have HOY := hid (HOX.out.mod HMY.out (fun k hk => by simp; intro h; exact hbM (h ▸ hk)))
                by_cases h5 : c.kind = 5
                · have e5 : (c.kind == 5) = true := beq_iff_eq.2 h5
                  have hT : Hid (callT t c now = { t with calls := t.calls + 1, under := true, call := c, at_ := now, state := 2 }) := by show _ = _; unfold callT; rw [if_pos hE.out, if_pos h5]
                  clear h5
                  go_wp2
                  go_ret2
                  refine ⟨by rw [hN.out, hE.out]; rfl, b :: M, ?_, HmY.out.setCell (p := ⟨b, 1, none⟩) (Or.inl (by simp)) _, fun k hk => Or.inl hk⟩
                  rw [hT.out]
                  exact rxR.here (HBY.out.set 1 (.int .i64 2)) rfl HOY.out hbM ((Mod.refl [b] Y).setCell (p := ⟨b, 1, none⟩) (Or.inl (by simp)) _)
                · have e5 : (c.kind == 5) = false := beq_eq_false_iff_ne.2 h5
                  have hT : Hid (callT t c now = { t with calls := t.calls + 1, under := true, call := c, at_ := now }) := by show _ = _; unfold callT; rw [if_pos hE.out, if_neg h5]
                  clear h5
                  go_wp2
                  go_ret2
                  refine ⟨by rw [hN.out, hE.out]; rfl, b :: M, ?_, HmY.out, fun k hk => Or.inl hk⟩
                  rw [hT.out]
                  exact ⟨v', M, HBY.out, HOY.out, hbM, rfl⟩
              · go_wp2
                go_ret2
                exact HF.out _ HMn.out 11 HC3.out (by decide)
          · have hq : Hid (callE t c = 3) := by show _ = _; rw [HCE.out]; unfold shortE; rw [if_neg hsz]; simp [firstI]
            by_cases h1 : (16 : Int) < c.key.size
            · clear hsz HCE
              go_wp2
              go_ret2
              exact HF.out _ HMn.out 3 hq.out (by decide)
            · by_cases h2 : (16 : Int) < c.hi.size
              · clear hsz HCE
                go_wp2
                go_ret2
                exact HF.out _ HMn.out 3 hq.out (by decide)
              · have h3 : (24 : Int) < c.val.size := by omega
                clear hsz HCE
                go_wp2
                go_ret2
                exact HF.out _ HMn.out 3 hq.out (by decide)
    · rw [hu] at b3
      have hq : Hid (callE t c = 12) := by show _ = _; simp [callE, liveE, idleE, hov, hu, firstI]
      clear hov hu
      go_wp2
      go_ret2
      exact HF.out _ (Mod.refl [] _) 12 hq.out (by decide)
  · have hq : Hid (callE t c = 13) := by show _ = _; simp [callE, liveE, hov, firstI]
    go_wp2_with (go_at_call 39; refine (over_c W b t L HT.out).mono ?_; rintro e w' ⟨rfl, rfl⟩; rw [hov])
    go_ret2
    exact HF.out _ (Mod.refl [] _) 13 hq.out (by decide)
end Go.Proofs.Ytocfeeecgpklnaa
