/- TxnOnce: the walk. -/
import Derived.Test.YtocfeeecgpklnaaTYD
namespace Go.Proofs.Ytocfeeecgpklnaa
set_option linter.unusedVariables false
set_option linter.unusedSimpArgs false
set_option linter.unusedSectionVars false
open Go.RowKit Go.Shelf

set_option maxRecDepth 100000 in
set_option maxHeartbeats 8000000 in
theorem once_c (a : Option Addr) (cap : Nat) (xs : List Ac) (w : World) (hx : Lx 12 acC w (.slice a xs.length cap) xs) (hok : ∀ x ∈ xs, x.Ok) :
    Calls Try.prog 5 #[.slice a xs.length cap] w fun e w' => e = .returned (.bool true) ∧ Mod [] w w' := by
  have HX := hid hx
  have HOk := hid hok
  have hlen := hx.len.2
  clear hx hok
  have HT := hid (Top.start w)
  go_enter Try.func5, Try.ntmps5
  go_wp2_with fail
  refine (new_c w 7 0 (by decide)).mono ?_
  intro e w1 hs
  obtain ⟨rfl, hT1⟩ := HT.out.new hs
  have HT1 := hid hT1
  clear hT1 hs HT
  generalize w.heap.size = b at *
  go_wp2
  have hI0 := hid iv_start
  generalize tx0 7 0 = t0 at *
  go_loopg [4, 5, 6] (min xs.length 60) (fun g p q k wr => ∃ (i taken told : Nat) (t : Tx), p = .int .i64 taken ∧ q = .int .i64 told ∧ k = .int .i64 i ∧ i + g = min xs.length 60 ∧ Hid (Iv t taken told i) ∧ Hid (Top w (star (txR b t) emp) wr))
  · exact ⟨0, 0, 0, t0, rfl, rfl, rfl, by omega, hI0, HT1⟩
  · obtain ⟨i, taken, told, t, rfl, rfl, rfl, hi, hI, hT⟩ := hrel
    by_cases hlt : i < min xs.length 60
    · have hl1 : (i : Int) < (xs.length : Int) := by omega
      have hl2 : (i : Int) < 60 := by omega
      have hi0 : (0 : Int) ≤ (i : Int) := by omega
      obtain ⟨x, hx⟩ : ∃ x, xs[i]? = some x := ⟨_, List.getElem?_eq_getElem (by omega)⟩
      have hxo := hid (HOk.out x (List.mem_of_getElem? hx))
      obtain ⟨Lt, ht⟩ := hT.out.res
      have Ht := hid ht
      clear ht
      go_upto_region 9 with (first
        | (go_at_call 14; (with_reducible refine (state_c _ b t Lt Ht.out).mono ?_); rintro e w' ⟨rfl, rfl⟩)
        | (go_at_call 17; (with_reducible refine (ops_c _ b t Lt Ht.out (by have := hI.out.len; omega)).mono ?_); rintro e w' ⟨v1, L1, rfl, h1, hm, h3⟩; have Hm := hid hm; obtain ⟨ga, gc, rfl, _⟩ := h1.val; clear hm h1 h3)
        | fail)
      have HT2 := hid (hT.out.mod Hm.out)
      have HM2 := hid (hT.out.m.tr Hm.out)
      clear hT Ht Hm
      obtain ⟨Lt, ht⟩ := HT2.out.res
      go_wp2_with fail
      refine (pending_c _ b t Lt ht).mono ?_
      obtain ⟨pc, hpc⟩ : ∃ pc, (if t.under then t.call else cl0) = pc := ⟨_, rfl⟩
      rw [hpc]
      clear hpc
      obtain ⟨ub, hub⟩ : ∃ ub, t.under = ub := ⟨_, rfl⟩
      rw [hub]
      have Hub := hid hub
      clear hub
      rintro e w3 ⟨rfl, hm3⟩
      have hT3 := HT2.out.mod hm3
      have hT4 := hT3.alloc (.cells (clC pc) 24)
      obtain ⟨ab, off, rfl, hcs⟩ := (HX.out.mod hT4.m).at hx
      have c0 := hcs 0 _ rfl
      have c1 := hcs 1 _ rfl
      have c2 := hcs 2 _ rfl
      have c3 := hcs 3 _ rfl
      have c4 := hcs 4 _ rfl
      have c5 := hcs 5 _ rfl
      have c6 := hcs 6 _ rfl
      have c7 := hcs 7 _ rfl
      have c8 := hcs 8 _ rfl
      have c9 := hcs 9 _ rfl
      have c10 := hcs 10 _ rfl
      have c11 := hcs 11 _ rfl
      simp only [Nat.add_zero] at c0
      clear ht hcs HT2 HM2 hm3 hT3
      have HT4 := hid hT4
      clear hT4 hx
      go_upto_region 10 with (fail)
      generalize w3.alloc (.cells (clC pc) 24) = w4 at *
      generalize w3.heap.size = q9 at *
      have HT5 := hid (HT4.out.box #[.int .i64 x.what, .int .i64 x.c.kind, .int .u64 7, .string x.c.key, .string x.c.hi, .string x.c.val, .int .u64 x.n, .string x.r.key, .int .u64 x.r.ln, .bool x.r.dl, .string x.r.vl, .string x.v] 34)
      go_upto_region 12 with (fail)
      clear c0 c1 c2 c3 c4 c5 c6 c7 c8 c9 c10 c11 HT4
      generalize w4.alloc (.cells #[.int .i64 x.what, .int .i64 x.c.kind, .int .u64 7, .string x.c.key, .string x.c.hi, .string x.c.val, .int .u64 x.n, .string x.r.key, .int .u64 x.r.ln, .bool x.r.dl, .string x.r.vl, .string x.v] 34) = W at *
      generalize w4.heap.size = q at *
      have hBx := HT5.out.get
      have c0 : W.cell? ⟨q, 0, none⟩ = some (.int .i64 x.what) := hBx.cell 0
      have c1 : W.cell? ⟨q, 1, none⟩ = some (.int .i64 x.c.kind) := hBx.cell 1
      have c2 : W.cell? ⟨q, 2, none⟩ = some (.int .u64 7) := hBx.cell 2
      have c3 : W.cell? ⟨q, 3, none⟩ = some (.string x.c.key) := hBx.cell 3
      have c4 : W.cell? ⟨q, 4, none⟩ = some (.string x.c.hi) := hBx.cell 4
      have c5 : W.cell? ⟨q, 5, none⟩ = some (.string x.c.val) := hBx.cell 5
      have c6 : W.cell? ⟨q, 6, none⟩ = some (.int .u64 x.n) := hBx.cell 6
      have c7 : W.cell? ⟨q, 7, none⟩ = some (.string x.r.key) := hBx.cell 7
      have c8 : W.cell? ⟨q, 8, none⟩ = some (.int .u64 x.r.ln) := hBx.cell 8
      have c9 : W.cell? ⟨q, 9, none⟩ = some (.bool x.r.dl) := hBx.cell 9
      have c10 : W.cell? ⟨q, 10, none⟩ = some (.string x.r.vl) := hBx.cell 10
      have c11 : W.cell? ⟨q, 11, none⟩ = some (.string x.v) := hBx.cell 11
      have hql := hBx.lt
      have HTa := hid HT5.out.drop
      clear hBx HT5
      go_upto_block 2 with (fail)
      go_cut [4, 5, 10, 12, 13, 14, 15, 16, 17, 18, 19] from 53 to 220 (fun p r _ _ _ _ _ _ _ _ _ wx => ∃ (taken' told' : Nat) (t' : Tx), p = .int .i64 taken' ∧ r = .int .i64 told' ∧ Hid (Iv t' taken' told' (i + 1)) ∧ Hid (t.state = 4 ∨ t.state = 5 → t'.state = t.state) ∧ Hid (Top w (star (txR b t') emp) wx))
      case first =>
        have htk := hI.out.tk
        have htl : told ≤ taken := by have h := hI.out.cnt; split at h <;> omega
        have hb1 : (told : Int) + 1 ≤ 1000 := by omega
        have hb2 : (taken : Int) + 1 ≤ 1000 := by omega
        by_cases hw0 : x.what = 0 ∨ x.what = 1 ∨ x.what = 2 ∨ x.what = 3
        · rcases hw0 with hw | hw | hw | hw
          · as_aux_lemma =>
              have e0 : (x.what == 0) = true := beq_iff_eq.2 hw
              clear hw
              have HC := hid (fun X => lcall_c X ⟨x.what, ⟨x.c.kind, 7, x.c.key, x.c.hi, x.c.val⟩, x.n, x.r, x.v⟩ hxo.out.2.2.1.2.2.2.1 hxo.out.2.2.1.2.2.2.2.1 hxo.out.2.2.1.2.2.2.2.2)
              obtain ⟨cc, hcc⟩ : ∃ cc, shC (⟨x.c.kind, 7, x.c.key, x.c.hi, x.c.val⟩ : Cl) = cc := ⟨_, rfl⟩
              simp only [hcc] at HC
              clear hcc
              go_upto_region 24 with (fail)
              go_wp2_with fail
              refine (HC.out W).mono ?_
              rintro e w5 ⟨rfl, hm⟩
              have HT5 := hid (HTa.out.mod hm)
              clear hm HTa HC c0 c1 c2 c3 c4 c5 c6 c7 c8 c9 c10 c11 hql
              go_wp2_with fail
              refine (HT5.out.call (fun L hL => call_c w5 b t cc i L hL hI.out.kr (by have := hI.out.len; omega) (by have := hI.out.calls; omega))).mono ?_
              rintro e w6 ⟨rfl, hT6⟩
              have HT6 := hid hT6
              clear hT6 HT5
              by_cases hE : callE t cc = 0
              · obtain ⟨hu, hs0, hn, hIv⟩ := iv_call hI.out i hE
                have HIv := hid hIv
                obtain rfl : ub = false := by rw [← Hub.out]; exact hu
                rw [hE, hn]
                have Hs0 := hid hs0
                have es : ((t.state : Int) != 0) = false := bne_eq_false_iff_eq.2 (by omega)
                have et : ¬ (t.state = 4 ∨ t.state = 5) := by omega
                have Het := hid et
                clear hs0 hn hIv hE et hu
                go_wp2
                go_meet
                exact ⟨taken + 1, told, _, by first | rfl | (congr 1; omega) | simp, rfl, HIv, hid (fun k => absurd k Het.out), HT6⟩
              · obtain ⟨hcT, hcN⟩ := call_no i hE
                have eE : (callE t cc != 0) = true := bne_iff_ne.2 hE
                rw [hcT] at HT6
                rw [hcN]
                have HIv := hid hI.out.step
                obtain ⟨Lt, ht⟩ := HT6.out.res
                have Ht := hid ht
                clear hE hcT hcN ht
                go_wp2_with (first
                  | (go_at_call 14; (with_reducible refine (state_c _ b t Lt Ht.out).mono ?_); rintro e w' ⟨rfl, rfl⟩)
                  | (go_at_call 17; (with_reducible refine (ops_c _ b t Lt Ht.out (by have := hI.out.len; omega)).mono ?_); rintro e w' ⟨v2, L2, rfl, h1, hm, h3⟩; have HT7 := hid (HT6.out.mod hm); obtain ⟨pa, pc', rfl, _⟩ := h1.val; clear hm h1 h3)
                  | fail)
                go_meet
                exact ⟨taken, told, t, rfl, rfl, HIv, hid (fun _ => rfl), HT7⟩
          · as_aux_lemma =>
              have e0 : (x.what == 0) = false := beq_eq_false_iff_ne.2 (by omega)
              have e1 : (x.what == 1) = true := beq_iff_eq.2 hw
              clear hw
              have HC := hid (fun X => lcall_c X ⟨x.what, ⟨x.c.kind, 7, x.c.key, x.c.hi, x.c.val⟩, x.n, x.r, x.v⟩ hxo.out.2.2.1.2.2.2.1 hxo.out.2.2.1.2.2.2.2.1 hxo.out.2.2.1.2.2.2.2.2)
              obtain ⟨cc, hcc⟩ : ∃ cc, shC (⟨x.c.kind, 7, x.c.key, x.c.hi, x.c.val⟩ : Cl) = cc := ⟨_, rfl⟩
              simp only [hcc] at HC
              clear hcc
              go_upto_region 24 with (fail)
              go_wp2_with fail
              refine (HC.out W).mono ?_
              rintro e w5 ⟨rfl, hm⟩
              have HT5 := hid (HTa.out.mod hm)
              clear hm HTa HC c0 c1 c2 c3 c4 c5 c6 c7 c8 c9 c10 c11 hql
              go_wp2_with fail
              refine (HT5.out.call (fun L hL => call_c w5 b t cc i L hL hI.out.kr (by have := hI.out.len; omega) (by have := hI.out.calls; omega))).mono ?_
              rintro e w6 ⟨rfl, hT6⟩
              have HT6 := hid hT6
              clear hT6 HT5
              by_cases hE : callE t cc = 0
              · obtain ⟨hu, hs0, hn, hIv⟩ := iv_call hI.out i hE
                have HIv := hid hIv
                obtain rfl : ub = false := by rw [← Hub.out]; exact hu
                rw [hE, hn]
                have Hs0 := hid hs0
                have es : ((t.state : Int) != 0) = false := bne_eq_false_iff_eq.2 (by omega)
                have et : ¬ (t.state = 4 ∨ t.state = 5) := by omega
                have Het := hid et
                clear hs0 hn hIv hE et hu
                go_wp2
                go_meet
                exact ⟨taken + 1, told, _, by first | rfl | (congr 1; omega) | simp, rfl, HIv, hid (fun k => absurd k Het.out), HT6⟩
              · obtain ⟨hcT, hcN⟩ := call_no i hE
                have eE : (callE t cc != 0) = true := bne_iff_ne.2 hE
                rw [hcT] at HT6
                rw [hcN]
                have HIv := hid hI.out.step
                obtain ⟨Lt, ht⟩ := HT6.out.res
                have Ht := hid ht
                clear hE hcT hcN ht
                go_wp2_with (first
                  | (go_at_call 14; (with_reducible refine (state_c _ b t Lt Ht.out).mono ?_); rintro e w' ⟨rfl, rfl⟩)
                  | (go_at_call 17; (with_reducible refine (ops_c _ b t Lt Ht.out (by have := hI.out.len; omega)).mono ?_); rintro e w' ⟨v2, L2, rfl, h1, hm, h3⟩; have HT7 := hid (HT6.out.mod hm); obtain ⟨pa, pc', rfl, _⟩ := h1.val; clear hm h1 h3)
                  | fail)
                go_meet
                exact ⟨taken, told, t, rfl, rfl, HIv, hid (fun _ => rfl), HT7⟩
          · as_aux_lemma =>
              have e0 : (x.what == 0) = false := beq_eq_false_iff_ne.2 (by omega)
              have e1 : (x.what == 1) = false := beq_eq_false_iff_ne.2 (by omega)
              have e2 : (x.what == 2) = true := beq_iff_eq.2 hw
              clear hw
              have HC := hid (fun X => lcall_c X ⟨x.what, ⟨x.c.kind, 7, x.c.key, x.c.hi, x.c.val⟩, x.n, x.r, x.v⟩ hxo.out.2.2.1.2.2.2.1 hxo.out.2.2.1.2.2.2.2.1 hxo.out.2.2.1.2.2.2.2.2)
              obtain ⟨cc, hcc⟩ : ∃ cc, shC (⟨x.c.kind, 7, x.c.key, x.c.hi, x.c.val⟩ : Cl) = cc := ⟨_, rfl⟩
              simp only [hcc] at HC
              clear hcc
              go_upto_region 24 with (fail)
              go_wp2_with fail
              refine (HC.out W).mono ?_
              rintro e w5 ⟨rfl, hm⟩
              have HT5 := hid (HTa.out.mod hm)
              clear hm HTa HC c0 c1 c2 c3 c4 c5 c6 c7 c8 c9 c10 c11 hql
              go_wp2_with fail
              refine (HT5.out.call (fun L hL => call_c w5 b t cc i L hL hI.out.kr (by have := hI.out.len; omega) (by have := hI.out.calls; omega))).mono ?_
              rintro e w6 ⟨rfl, hT6⟩
              have HT6 := hid hT6
              clear hT6 HT5
              by_cases hE : callE t cc = 0
              · obtain ⟨hu, hs0, hn, hIv⟩ := iv_call hI.out i hE
                have HIv := hid hIv
                obtain rfl : ub = false := by rw [← Hub.out]; exact hu
                rw [hE, hn]
                have Hs0 := hid hs0
                have es : ((t.state : Int) != 0) = false := bne_eq_false_iff_eq.2 (by omega)
                have et : ¬ (t.state = 4 ∨ t.state = 5) := by omega
                have Het := hid et
                clear hs0 hn hIv hE et hu
                go_wp2
                go_meet
                exact ⟨taken + 1, told, _, by first | rfl | (congr 1; omega) | simp, rfl, HIv, hid (fun k => absurd k Het.out), HT6⟩
              · obtain ⟨hcT, hcN⟩ := call_no i hE
                have eE : (callE t cc != 0) = true := bne_iff_ne.2 hE
                rw [hcT] at HT6
                rw [hcN]
                have HIv := hid hI.out.step
                obtain ⟨Lt, ht⟩ := HT6.out.res
                have Ht := hid ht
                clear hE hcT hcN ht
                go_wp2_with (first
                  | (go_at_call 14; (with_reducible refine (state_c _ b t Lt Ht.out).mono ?_); rintro e w' ⟨rfl, rfl⟩)
                  | (go_at_call 17; (with_reducible refine (ops_c _ b t Lt Ht.out (by have := hI.out.len; omega)).mono ?_); rintro e w' ⟨v2, L2, rfl, h1, hm, h3⟩; have HT7 := hid (HT6.out.mod hm); obtain ⟨pa, pc', rfl, _⟩ := h1.val; clear hm h1 h3)
                  | fail)
                go_meet
                exact ⟨taken, told, t, rfl, rfl, HIv, hid (fun _ => rfl), HT7⟩
          · as_aux_lemma =>
              have e0 : (x.what == 0) = false := beq_eq_false_iff_ne.2 (by omega)
              have e1 : (x.what == 1) = false := beq_eq_false_iff_ne.2 (by omega)
              have e2 : (x.what == 2) = false := beq_eq_false_iff_ne.2 (by omega)
              have e3 : (x.what == 3) = true := beq_iff_eq.2 hw
              clear hw
              have HC := hid (fun X => lcall_c X ⟨x.what, ⟨x.c.kind, 7, x.c.key, x.c.hi, x.c.val⟩, x.n, x.r, x.v⟩ hxo.out.2.2.1.2.2.2.1 hxo.out.2.2.1.2.2.2.2.1 hxo.out.2.2.1.2.2.2.2.2)
              obtain ⟨cc, hcc⟩ : ∃ cc, shC (⟨x.c.kind, 7, x.c.key, x.c.hi, x.c.val⟩ : Cl) = cc := ⟨_, rfl⟩
              simp only [hcc] at HC
              clear hcc
              go_upto_region 24 with (fail)
              go_wp2_with fail
              refine (HC.out W).mono ?_
              rintro e w5 ⟨rfl, hm⟩
              have HT5 := hid (HTa.out.mod hm)
              clear hm HTa HC c0 c1 c2 c3 c4 c5 c6 c7 c8 c9 c10 c11 hql
              go_wp2_with fail
              refine (HT5.out.call (fun L hL => call_c w5 b t cc i L hL hI.out.kr (by have := hI.out.len; omega) (by have := hI.out.calls; omega))).mono ?_
              rintro e w6 ⟨rfl, hT6⟩
              have HT6 := hid hT6
              clear hT6 HT5
              by_cases hE : callE t cc = 0
              · obtain ⟨hu, hs0, hn, hIv⟩ := iv_call hI.out i hE
                have HIv := hid hIv
                obtain rfl : ub = false := by rw [← Hub.out]; exact hu
                rw [hE, hn]
                have Hs0 := hid hs0
                have es : ((t.state : Int) != 0) = false := bne_eq_false_iff_eq.2 (by omega)
                have et : ¬ (t.state = 4 ∨ t.state = 5) := by omega
                have Het := hid et
                clear hs0 hn hIv hE et hu
                go_wp2
                go_meet
                exact ⟨taken + 1, told, _, by first | rfl | (congr 1; omega) | simp, rfl, HIv, hid (fun k => absurd k Het.out), HT6⟩
              · obtain ⟨hcT, hcN⟩ := call_no i hE
                have eE : (callE t cc != 0) = true := bne_iff_ne.2 hE
                rw [hcT] at HT6
                rw [hcN]
                have HIv := hid hI.out.step
                obtain ⟨Lt, ht⟩ := HT6.out.res
                have Ht := hid ht
                clear hE hcT hcN ht
                go_wp2_with (first
                  | (go_at_call 14; (with_reducible refine (state_c _ b t Lt Ht.out).mono ?_); rintro e w' ⟨rfl, rfl⟩)
                  | (go_at_call 17; (with_reducible refine (ops_c _ b t Lt Ht.out (by have := hI.out.len; omega)).mono ?_); rintro e w' ⟨v2, L2, rfl, h1, hm, h3⟩; have HT7 := hid (HT6.out.mod hm); obtain ⟨pa, pc', rfl, _⟩ := h1.val; clear hm h1 h3)
                  | fail)
                go_meet
                exact ⟨taken, told, t, rfl, rfl, HIv, hid (fun _ => rfl), HT7⟩
        · by_cases hw4 : x.what = 4
          · as_aux_lemma =>
              have hw := hw4
              clear hw4 hw0
              have e0 : (x.what == 0) = false := beq_eq_false_iff_ne.2 (by omega)
              have e1 : (x.what == 1) = false := beq_eq_false_iff_ne.2 (by omega)
              have e2 : (x.what == 2) = false := beq_eq_false_iff_ne.2 (by omega)
              have e3 : (x.what == 3) = false := beq_eq_false_iff_ne.2 (by omega)
              have e4 : (x.what == 4) = true := beq_iff_eq.2 hw
              clear hw
              have HIv := hid (iv_wait hI.out)
              go_upto_region 32 with (fail)
              clear c0 c1 c2 c3 c4 c5 c6 c7 c8 c9 c10 c11 hql
              go_wp2_with fail
              refine (HTa.out.call (fun L hL => wait_c W b t L hL)).mono ?_
              rintro e w6 ⟨rfl, hT6⟩
              have HT6 := hid hT6
              clear hT6 HTa
              go_wp2
              go_meet
              exact ⟨taken, told, _, rfl, rfl, hid HIv.out.1, hid HIv.out.2, HT6⟩
          · by_cases hw5 : x.what = 5 ∨ x.what = 6
            · rcases hw5 with hw | hw
              · as_aux_lemma =>
                  clear hw0 hw4
                  have e0 : (x.what == 0) = false := beq_eq_false_iff_ne.2 (by omega)
                  have e1 : (x.what == 1) = false := beq_eq_false_iff_ne.2 (by omega)
                  have e2 : (x.what == 2) = false := beq_eq_false_iff_ne.2 (by omega)
                  have e3 : (x.what == 3) = false := beq_eq_false_iff_ne.2 (by omega)
                  have e4 : (x.what == 4) = false := beq_eq_false_iff_ne.2 (by omega)
                  have e5 : (x.what == 5) = true := beq_iff_eq.2 hw
                  clear hw
                  go_upto_region 35 with (fail)
                  clear c0 c1 c2 c3 c4 c5 c6 c7 c8 c9 c10 c11 hql
                  go_wp2_with fail
                  refine (HTa.out.call (fun L hL => answer_c W b t oc0 i L hL)).mono ?_
                  by_cases hE : answerE t = 0
                  · obtain ⟨hov, hO, htd, hst, hIv⟩ := iv_ans hI.out i hE
                    have hO2 : answerO t oc0 = ⟨7, (taken : Int), 0, false, ⟨#[]⟩, none, 0, 0⟩ := by rw [hO]; unfold toldO; rw [hI.out.ts, hI.out.calls]
                    rw [hE, hO2]
                    rintro e w6 ⟨rfl, hT6⟩
                    have HT6 := hid (hT6.alloc (.cells (ocC ⟨7, (taken : Int), 0, false, ⟨#[]⟩, none, 0, 0⟩) 54))
                    obtain ⟨Lt, ht⟩ := HT6.out.res
                    have Ht := hid ht
                    have HIv := hid hIv
                    have Hst := hid hst
                    have Hov := hid hov
                    have k1 : (told : Int) + 1 ≤ (taken : Int) := by omega
                    clear hT6 HTa hO hO2 hE hov hst hIv ht
                    go_wp2_with fail
                    refine (state_c _ b (answerT t i) Lt Ht.out).mono ?_
                    rintro e w' ⟨rfl, rfl⟩
                    rw [Hst.out]
                    replace k1 : ¬ ((taken : Int) < (told : Int) + 1) := by omega
                    clear htk htl hb1 hb2 htd hl1 hl2 hi0 hlen hlt
                    go_wp2
                    go_meet
                    exact ⟨taken, told + 1, _, rfl, by first | rfl | (congr 1; omega) | simp, HIv, hid (fun k => absurd k Hov.out), HT6⟩
                  · obtain ⟨h5, hT5⟩ := iv_ans_no i hE
                    rw [h5, hT5]
                    obtain ⟨ao, hao⟩ : ∃ ao, answerO t oc0 = ao := ⟨_, rfl⟩
                    rw [hao]
                    clear hao
                    rintro e w6 ⟨rfl, hT6⟩
                    have HT6 := hid (hT6.alloc (.cells (ocC ao) 54))
                    obtain ⟨Lt, ht⟩ := HT6.out.res
                    have Ht := hid ht
                    have HIv := hid hI.out.step
                    clear hT6 HTa hE h5 hT5 ht
                    go_wp2_with fail
                    refine (state_c _ b t Lt Ht.out).mono ?_
                    rintro e w' ⟨rfl, rfl⟩
                    go_wp2
                    go_meet
                    exact ⟨taken, told, t, rfl, rfl, HIv, hid (fun _ => rfl), HT6⟩
              · as_aux_lemma =>
                  clear hw0 hw4
                  have e0 : (x.what == 0) = false := beq_eq_false_iff_ne.2 (by omega)
                  have e1 : (x.what == 1) = false := beq_eq_false_iff_ne.2 (by omega)
                  have e2 : (x.what == 2) = false := beq_eq_false_iff_ne.2 (by omega)
                  have e3 : (x.what == 3) = false := beq_eq_false_iff_ne.2 (by omega)
                  have e4 : (x.what == 4) = false := beq_eq_false_iff_ne.2 (by omega)
                  have e5 : (x.what == 5) = false := beq_eq_false_iff_ne.2 (by omega)
                  have e6 : (x.what == 6) = true := beq_iff_eq.2 hw
                  clear hw
                  go_upto_region 35 with (fail)
                  clear c0 c1 c2 c3 c4 c5 c6 c7 c8 c9 c10 c11 hql
                  go_wp2_with fail
                  refine (HTa.out.call (fun L hL => answer_c W b t oc0 i L hL)).mono ?_
                  by_cases hE : answerE t = 0
                  · obtain ⟨hov, hO, htd, hst, hIv⟩ := iv_ans hI.out i hE
                    have hO2 : answerO t oc0 = ⟨7, (taken : Int), 0, false, ⟨#[]⟩, none, 0, 0⟩ := by rw [hO]; unfold toldO; rw [hI.out.ts, hI.out.calls]
                    rw [hE, hO2]
                    rintro e w6 ⟨rfl, hT6⟩
                    have HT6 := hid (hT6.alloc (.cells (ocC ⟨7, (taken : Int), 0, false, ⟨#[]⟩, none, 0, 0⟩) 54))
                    obtain ⟨Lt, ht⟩ := HT6.out.res
                    have Ht := hid ht
                    have HIv := hid hIv
                    have Hst := hid hst
                    have Hov := hid hov
                    have k1 : (told : Int) + 1 ≤ (taken : Int) := by omega
                    clear hT6 HTa hO hO2 hE hov hst hIv ht
                    go_wp2_with fail
                    refine (state_c _ b (answerT t i) Lt Ht.out).mono ?_
                    rintro e w' ⟨rfl, rfl⟩
                    rw [Hst.out]
                    replace k1 : ¬ ((taken : Int) < (told : Int) + 1) := by omega
                    clear htk htl hb1 hb2 htd hl1 hl2 hi0 hlen hlt
                    go_wp2
                    go_meet
                    exact ⟨taken, told + 1, _, rfl, by first | rfl | (congr 1; omega) | simp, HIv, hid (fun k => absurd k Hov.out), HT6⟩
                  · obtain ⟨h5, hT5⟩ := iv_ans_no i hE
                    rw [h5, hT5]
                    obtain ⟨ao, hao⟩ : ∃ ao, answerO t oc0 = ao := ⟨_, rfl⟩
                    rw [hao]
                    clear hao
                    rintro e w6 ⟨rfl, hT6⟩
                    have HT6 := hid (hT6.alloc (.cells (ocC ao) 54))
                    obtain ⟨Lt, ht⟩ := HT6.out.res
                    have Ht := hid ht
                    have HIv := hid hI.out.step
                    clear hT6 HTa hE h5 hT5 ht
                    go_wp2_with fail
                    refine (state_c _ b t Lt Ht.out).mono ?_
                    rintro e w' ⟨rfl, rfl⟩
                    go_wp2
                    go_meet
                    exact ⟨taken, told, t, rfl, rfl, HIv, hid (fun _ => rfl), HT6⟩
            · by_cases hw7 : x.what = 7 ∨ x.what = 8
              · rcases hw7 with hw | hw
                · as_aux_lemma =>
                    clear hw0 hw4 hw5
                    have e0 : (x.what == 0) = false := beq_eq_false_iff_ne.2 (by omega)
                    have e1 : (x.what == 1) = false := beq_eq_false_iff_ne.2 (by omega)
                    have e2 : (x.what == 2) = false := beq_eq_false_iff_ne.2 (by omega)
                    have e3 : (x.what == 3) = false := beq_eq_false_iff_ne.2 (by omega)
                    have e4 : (x.what == 4) = false := beq_eq_false_iff_ne.2 (by omega)
                    have e5 : (x.what == 5) = false := beq_eq_false_iff_ne.2 (by omega)
                    have e6 : (x.what == 6) = false := beq_eq_false_iff_ne.2 (by omega)
                    have e7 : (x.what == 7) = true := beq_iff_eq.2 hw
                    clear hw
                    have k1 : x.r.key.size ≤ 9223372036854775807 := hxo.out.2.2.2.2.1.2.1
                    have k2 : x.r.vl.size ≤ 9223372036854775807 := hxo.out.2.2.2.2.1.2.2
                    go_upto_region 47 with (go_at_call 15; refine (short_c _ _ (by assumption)).mono ?_; rintro e w' ⟨rfl, rfl⟩)
                    have HT5 := hid (HTa.out.alloc (.cells (rcA (shR x.r)) 32))
                    clear c0 c1 c2 c3 c4 c5 c6 c7 c8 c9 c10 c11 hql HTa k1 k2
                    go_wp2_with fail
                    refine (HT5.out.call (fun L hL => wrote_c _ b t (shR x.r) L hL hI.out.kr (by have := hI.out.len; omega))).mono ?_
                    obtain ⟨hIv, hst, hno⟩ := iv_wrote hI.out (shR x.r)
                    rintro e w6 ⟨rfl, hT6⟩
                    have HT6 := hid hT6
                    have HIv := hid hIv
                    have Hst := hid hst
                    clear hT6 HT5
                    by_cases hE : wroteE t (shR x.r) = 0
                    · rw [hE]
                      obtain ⟨Lt, ht⟩ := HT6.out.res
                      have Ht := hid ht
                      have k6 : ((wroteT t (shR x.r)).ops.length : Int) ≤ 6 := by have := hIv.len; omega
                      clear hE hno hIv hst ht
                      generalize wroteT t (shR x.r) = u at *
                      go_wp2_with fail
                      refine (ops_c _ b u Lt Ht.out (by have := HIv.out.len; omega)).mono ?_
                      rintro e w7 ⟨v2, L2, rfl, h1, hm, h3⟩
                      have HT7 := hid (HT6.out.mod hm)
                      obtain ⟨pa, pc', rfl, _⟩ := h1.val
                      replace k6 : ¬ ((6 : Int) < (u.ops.length : Int)) := by omega
                      clear hm h1 h3 htk htl hb1 hb2 hl1 hl2 hi0 hlen hlt
                      go_wp2
                      go_meet
                      exact ⟨taken, told, u, rfl, rfl, HIv, hid (fun _ => Hst.out), HT7⟩
                    · rw [hno hE] at HT6
                      have eE : (wroteE t (shR x.r) != 0) = true := bne_iff_ne.2 hE
                      have HIv2 := hid hI.out.step
                      obtain ⟨Lt, ht⟩ := HT6.out.res
                      have Ht := hid ht
                      have k6 : (t.ops.length : Int) ≤ 6 := by have := hI.out.len; omega
                      clear hE hno hIv hst ht
                      generalize wroteE t (shR x.r) = z at *
                      go_wp2_with fail
                      refine (ops_c _ b t Lt Ht.out (by have := hI.out.len; omega)).mono ?_
                      rintro e w7 ⟨v2, L2, rfl, h1, hm, h3⟩
                      have HT7 := hid (HT6.out.mod hm)
                      obtain ⟨pa, pc', rfl, _⟩ := h1.val
                      obtain ⟨Lt, ht⟩ := HT7.out.res
                      have Ht7 := hid ht
                      clear hm h1 h3 ht
                      go_wp2_with fail
                      refine (ops_c _ b t Lt Ht7.out (by have := hI.out.len; omega)).mono ?_
                      rintro e w8 ⟨v3, L3, rfl, h1, hm, h3⟩
                      have HT8 := hid (HT7.out.mod hm)
                      obtain ⟨pa2, pc2, rfl, _⟩ := h1.val
                      replace k6 : ¬ ((6 : Int) < (t.ops.length : Int)) := by omega
                      clear hm h1 h3 htk htl hb1 hb2 hl1 hl2 hi0 hlen hlt
                      go_wp2
                      go_meet
                      exact ⟨taken, told, t, rfl, rfl, HIv2, hid (fun _ => rfl), HT8⟩
                · as_aux_lemma =>
                    clear hw0 hw4 hw5
                    have e0 : (x.what == 0) = false := beq_eq_false_iff_ne.2 (by omega)
                    have e1 : (x.what == 1) = false := beq_eq_false_iff_ne.2 (by omega)
                    have e2 : (x.what == 2) = false := beq_eq_false_iff_ne.2 (by omega)
                    have e3 : (x.what == 3) = false := beq_eq_false_iff_ne.2 (by omega)
                    have e4 : (x.what == 4) = false := beq_eq_false_iff_ne.2 (by omega)
                    have e5 : (x.what == 5) = false := beq_eq_false_iff_ne.2 (by omega)
                    have e6 : (x.what == 6) = false := beq_eq_false_iff_ne.2 (by omega)
                    have e7 : (x.what == 7) = false := beq_eq_false_iff_ne.2 (by omega)
                    have e8 : (x.what == 8) = true := beq_iff_eq.2 hw
                    clear hw
                    have k1 : x.r.key.size ≤ 9223372036854775807 := hxo.out.2.2.2.2.1.2.1
                    have k2 : x.r.vl.size ≤ 9223372036854775807 := hxo.out.2.2.2.2.1.2.2
                    go_upto_region 47 with (go_at_call 15; refine (short_c _ _ (by assumption)).mono ?_; rintro e w' ⟨rfl, rfl⟩)
                    have HT5 := hid (HTa.out.alloc (.cells (rcA (shR x.r)) 32))
                    clear c0 c1 c2 c3 c4 c5 c6 c7 c8 c9 c10 c11 hql HTa k1 k2
                    go_wp2_with fail
                    refine (HT5.out.call (fun L hL => wrote_c _ b t (shR x.r) L hL hI.out.kr (by have := hI.out.len; omega))).mono ?_
                    obtain ⟨hIv, hst, hno⟩ := iv_wrote hI.out (shR x.r)
                    rintro e w6 ⟨rfl, hT6⟩
                    have HT6 := hid hT6
                    have HIv := hid hIv
                    have Hst := hid hst
                    clear hT6 HT5
                    by_cases hE : wroteE t (shR x.r) = 0
                    · rw [hE]
                      obtain ⟨Lt, ht⟩ := HT6.out.res
                      have Ht := hid ht
                      have k6 : ((wroteT t (shR x.r)).ops.length : Int) ≤ 6 := by have := hIv.len; omega
                      clear hE hno hIv hst ht
                      generalize wroteT t (shR x.r) = u at *
                      go_wp2_with fail
                      refine (ops_c _ b u Lt Ht.out (by have := HIv.out.len; omega)).mono ?_
                      rintro e w7 ⟨v2, L2, rfl, h1, hm, h3⟩
                      have HT7 := hid (HT6.out.mod hm)
                      obtain ⟨pa, pc', rfl, _⟩ := h1.val
                      replace k6 : ¬ ((6 : Int) < (u.ops.length : Int)) := by omega
                      clear hm h1 h3 htk htl hb1 hb2 hl1 hl2 hi0 hlen hlt
                      go_wp2
                      go_meet
                      exact ⟨taken, told, u, rfl, rfl, HIv, hid (fun _ => Hst.out), HT7⟩
                    · rw [hno hE] at HT6
                      have eE : (wroteE t (shR x.r) != 0) = true := bne_iff_ne.2 hE
                      have HIv2 := hid hI.out.step
                      obtain ⟨Lt, ht⟩ := HT6.out.res
                      have Ht := hid ht
                      have k6 : (t.ops.length : Int) ≤ 6 := by have := hI.out.len; omega
                      clear hE hno hIv hst ht
                      generalize wroteE t (shR x.r) = z at *
                      go_wp2_with fail
                      refine (ops_c _ b t Lt Ht.out (by have := hI.out.len; omega)).mono ?_
                      rintro e w7 ⟨v2, L2, rfl, h1, hm, h3⟩
                      have HT7 := hid (HT6.out.mod hm)
                      obtain ⟨pa, pc', rfl, _⟩ := h1.val
                      obtain ⟨Lt, ht⟩ := HT7.out.res
                      have Ht7 := hid ht
                      clear hm h1 h3 ht
                      go_wp2_with fail
                      refine (ops_c _ b t Lt Ht7.out (by have := hI.out.len; omega)).mono ?_
                      rintro e w8 ⟨v3, L3, rfl, h1, hm, h3⟩
                      have HT8 := hid (HT7.out.mod hm)
                      obtain ⟨pa2, pc2, rfl, _⟩ := h1.val
                      replace k6 : ¬ ((6 : Int) < (t.ops.length : Int)) := by omega
                      clear hm h1 h3 htk htl hb1 hb2 hl1 hl2 hi0 hlen hlt
                      go_wp2
                      go_meet
                      exact ⟨taken, told, t, rfl, rfl, HIv2, hid (fun _ => rfl), HT8⟩
              · by_cases hw9 : x.what = 9 ∨ x.what = 10
                · rcases hw9 with hw | hw
                  · as_aux_lemma =>
                      clear hw0 hw4 hw5 hw7
                      have e0 : (x.what == 0) = false := beq_eq_false_iff_ne.2 (by omega)
                      have e1 : (x.what == 1) = false := beq_eq_false_iff_ne.2 (by omega)
                      have e2 : (x.what == 2) = false := beq_eq_false_iff_ne.2 (by omega)
                      have e3 : (x.what == 3) = false := beq_eq_false_iff_ne.2 (by omega)
                      have e4 : (x.what == 4) = false := beq_eq_false_iff_ne.2 (by omega)
                      have e5 : (x.what == 5) = false := beq_eq_false_iff_ne.2 (by omega)
                      have e6 : (x.what == 6) = false := beq_eq_false_iff_ne.2 (by omega)
                      have e7 : (x.what == 7) = false := beq_eq_false_iff_ne.2 (by omega)
                      have e8 : (x.what == 8) = false := beq_eq_false_iff_ne.2 (by omega)
                      have e9 : (x.what == 9) = true := beq_iff_eq.2 hw
                      clear hw
                      go_upto_region 51 with (fail)
                      clear c0 c1 c2 c3 c4 c5 c7 c8 c9 c10 c11
                      go_wp2_with fail
                      refine (HTa.out.call (fun L hL => log_c W b t x.n L hL)).mono ?_
                      obtain ⟨hIv, hst⟩ := iv_log hI.out x.n
                      rintro e w6 ⟨rfl, hT6⟩
                      have HT6 := hid hT6
                      have HIv := hid hIv
                      have Hst := hid hst
                      clear hT6 HTa hIv hst c6 hql
                      by_cases h2 : t.state = 2
                      · have e2 : ((t.state : Int) == 2) = true := beq_iff_eq.2 (by omega)
                        have hE : logE t = 0 := by unfold logE; rw [if_pos h2]
                        rw [hE]
                        clear h2 hE
                        go_wp2
                        go_meet
                        exact ⟨taken, told, _, rfl, rfl, HIv, Hst, HT6⟩
                      · have e2 : ((t.state : Int) == 2) = false := beq_eq_false_iff_ne.2 (by omega)
                        have hE : logE t = 2 := by unfold logE; rw [if_neg h2]
                        rw [hE]
                        clear h2 hE
                        go_wp2
                        go_meet
                        exact ⟨taken, told, _, rfl, rfl, HIv, Hst, HT6⟩
                  · as_aux_lemma =>
                      clear hw0 hw4 hw5 hw7
                      have e0 : (x.what == 0) = false := beq_eq_false_iff_ne.2 (by omega)
                      have e1 : (x.what == 1) = false := beq_eq_false_iff_ne.2 (by omega)
                      have e2 : (x.what == 2) = false := beq_eq_false_iff_ne.2 (by omega)
                      have e3 : (x.what == 3) = false := beq_eq_false_iff_ne.2 (by omega)
                      have e4 : (x.what == 4) = false := beq_eq_false_iff_ne.2 (by omega)
                      have e5 : (x.what == 5) = false := beq_eq_false_iff_ne.2 (by omega)
                      have e6 : (x.what == 6) = false := beq_eq_false_iff_ne.2 (by omega)
                      have e7 : (x.what == 7) = false := beq_eq_false_iff_ne.2 (by omega)
                      have e8 : (x.what == 8) = false := beq_eq_false_iff_ne.2 (by omega)
                      have e9 : (x.what == 9) = false := beq_eq_false_iff_ne.2 (by omega)
                      have e10 : (x.what == 10) = true := beq_iff_eq.2 hw
                      clear hw
                      go_upto_region 51 with (fail)
                      clear c0 c1 c2 c3 c4 c5 c7 c8 c9 c10 c11
                      go_wp2_with fail
                      refine (HTa.out.call (fun L hL => log_c W b t x.n L hL)).mono ?_
                      obtain ⟨hIv, hst⟩ := iv_log hI.out x.n
                      rintro e w6 ⟨rfl, hT6⟩
                      have HT6 := hid hT6
                      have HIv := hid hIv
                      have Hst := hid hst
                      clear hT6 HTa hIv hst c6 hql
                      by_cases h2 : t.state = 2
                      · have e2 : ((t.state : Int) == 2) = true := beq_iff_eq.2 (by omega)
                        have hE : logE t = 0 := by unfold logE; rw [if_pos h2]
                        rw [hE]
                        clear h2 hE
                        go_wp2
                        go_meet
                        exact ⟨taken, told, _, rfl, rfl, HIv, Hst, HT6⟩
                      · have e2 : ((t.state : Int) == 2) = false := beq_eq_false_iff_ne.2 (by omega)
                        have hE : logE t = 2 := by unfold logE; rw [if_neg h2]
                        rw [hE]
                        clear h2 hE
                        go_wp2
                        go_meet
                        exact ⟨taken, told, _, rfl, rfl, HIv, Hst, HT6⟩
                · as_aux_lemma =>
                    have e0 : (x.what == 0) = false := beq_eq_false_iff_ne.2 (by omega)
                    have e1 : (x.what == 1) = false := beq_eq_false_iff_ne.2 (by omega)
                    have e2 : (x.what == 2) = false := beq_eq_false_iff_ne.2 (by omega)
                    have e3 : (x.what == 3) = false := beq_eq_false_iff_ne.2 (by omega)
                    have e4 : (x.what == 4) = false := beq_eq_false_iff_ne.2 (by omega)
                    have e5 : (x.what == 5) = false := beq_eq_false_iff_ne.2 (by omega)
                    have e6 : (x.what == 6) = false := beq_eq_false_iff_ne.2 (by omega)
                    have e7 : (x.what == 7) = false := beq_eq_false_iff_ne.2 (by omega)
                    have e8 : (x.what == 8) = false := beq_eq_false_iff_ne.2 (by omega)
                    have e9 : (x.what == 9) = false := beq_eq_false_iff_ne.2 (by omega)
                    have e10 : (x.what == 10) = false := beq_eq_false_iff_ne.2 (by omega)
                    have hmod : (x.n : Int) % 20 = ((x.n % 20 : Nat) : Int) := by omega
                    have Hmod := hid hmod
                    clear hmod hw0 hw4 hw5 hw7 hw9
                    go_upto_region 13 with (fail)
                    clear c0 c1 c2 c3 c4 c5 c7 c8 c9 c10 c11
                    go_wp2_with fail
                    rw [Hmod.out]
                    obtain ⟨m, hm⟩ : ∃ m : Int, ((x.n % 20 : Nat) : Int) = m := ⟨_, rfl⟩
                    rw [hm]
                    refine (HTa.out.call (fun L hL => end_c W b t m L hL)).mono ?_
                    obtain ⟨hb, hO, hIv, h45, hst⟩ := iv_end hI.out m
                    cases ub
                    · have hu := Hub.out
                      rw [hb, hu]
                      rw [hu] at hIv
                      obtain ⟨ao, hao⟩ : ∃ ao, endO t m = ao := ⟨_, rfl⟩
                      rw [hao]
                      rintro e w6 ⟨rfl, hT6⟩
                      have HT6 := hid (hT6.alloc (.cells (ocC ao) 54))
                      obtain ⟨Lt, ht⟩ := HT6.out.res
                      have Ht := hid ht
                      have HIv := hid hIv
                      have Hst := hid hst
                      have h45 := hid h45
                      clear hT6 HTa c6 hql hb hO hIv hst hao ht hm hu e0 e1 e2 e3 e4 e5 e6 e7 e8 e9 e10
                      generalize endT t m = u at *
                      rcases h45.out with hs | hs
                      · go_wp2_with (go_at_call 14; (refine (state_c _ b u Lt Ht.out).mono ?_); rintro e w' ⟨rfl, rfl⟩; rw [hs])
                        go_meet
                        exact ⟨taken, told, u, rfl, rfl, HIv, Hst, HT6⟩
                      · go_wp2_with (go_at_call 14; (refine (state_c _ b u Lt Ht.out).mono ?_); rintro e w' ⟨rfl, rfl⟩; rw [hs])
                        go_meet
                        exact ⟨taken, told, u, rfl, rfl, HIv, Hst, HT6⟩
                    · have hu := Hub.out
                      rw [hb, hu]
                      rw [hu] at hIv
                      obtain ⟨o1, o2⟩ := hO hu
                      obtain ⟨ao, hao⟩ : ∃ ao, endO t m = ao := ⟨_, rfl⟩
                      rw [hao] at o1 o2 ⊢
                      rintro e w6 ⟨rfl, hT6⟩
                      have HT6 := hid (hT6.alloc (.cells (ocC ao) 54))
                      obtain ⟨Lt, ht⟩ := HT6.out.res
                      have Ht := hid ht
                      have HIv := hid hIv
                      have Hst := hid hst
                      have h45 := hid h45
                      have x1 : ((ao.ts : Int) != 7) = false := bne_eq_false_iff_eq.2 (by omega)
                      have x2 : (ao.n != (taken : Int)) = false := bne_eq_false_iff_eq.2 o2
                      clear hT6 HTa c6 hql hb hO hIv hst hao ht hm hu o1 o2 e0 e1 e2 e3 e4 e5 e6 e7 e8 e9 e10
                      generalize endT t m = u at *
                      rcases h45.out with hs | hs
                      · go_wp2_with (go_at_call 14; (refine (state_c _ b u Lt Ht.out).mono ?_); rintro e w' ⟨rfl, rfl⟩; rw [hs])
                        go_meet
                        exact ⟨taken, told + 1, u, rfl, by first | rfl | (congr 1; omega) | simp, HIv, Hst, HT6⟩
                      · go_wp2_with (go_at_call 14; (refine (state_c _ b u Lt Ht.out).mono ?_); rintro e w' ⟨rfl, rfl⟩; rw [hs])
                        go_meet
                        exact ⟨taken, told + 1, u, rfl, by first | rfl | (congr 1; omega) | simp, HIv, Hst, HT6⟩
      case rest =>
        as_aux_lemma =>
          obtain ⟨taken', told', t', rfl, rfl, hI', hst, hT'⟩ := hcut
          clear hI c0 c1 c2 c3 c4 c5 c6 c7 c8 c9 c10 c11 hql HTa hxo
          obtain ⟨Lt, ht⟩ := hT'.out.res
          have Ht := hid ht
          clear ht
          go_upto_region 54 with (fail)
          go_cut [232] from 221 to 231 (fun p wx => p = .bool false ∧ wx = wc)
          case first =>
            by_cases h4 : t.state = 4
            · have e4 : ((t.state : Int) == 4) = true := beq_iff_eq.2 (by omega)
              have hs := hst.out (Or.inl h4)
              clear h4
              go_wp2_with (go_at_call 14; (with_reducible refine (state_c _ b t' Lt Ht.out).mono ?_); rintro e w' ⟨rfl, rfl⟩; rw [hs])
              go_meet
              exact ⟨by simp, rfl⟩
            · have e4 : ((t.state : Int) == 4) = false := beq_eq_false_iff_ne.2 (by omega)
              by_cases h5 : t.state = 5
              · have e5 : ((t.state : Int) == 5) = true := beq_iff_eq.2 (by omega)
                have hs := hst.out (Or.inr h5)
                clear h4 h5
                go_wp2_with (go_at_call 14; (with_reducible refine (state_c _ b t' Lt Ht.out).mono ?_); rintro e w' ⟨rfl, rfl⟩; rw [hs])
                go_meet
                exact ⟨by simp, rfl⟩
              · have e5 : ((t.state : Int) == 5) = false := beq_eq_false_iff_ne.2 (by omega)
                clear h4 h5
                go_wp2
                go_meet
                exact ⟨rfl, rfl⟩
          case rest =>
          obtain ⟨rfl, he⟩ := hcut
          subst he
          go_upto_region 57 with (first
            | (go_at_call 17; (with_reducible refine (ops_c _ b t' Lt Ht.out (by have := hI'.out.len; omega)).mono ?_); rintro e w' ⟨v1, L1, rfl, h1, hm, h3⟩; have Hm := hid hm; obtain ⟨ga, gc, rfl, _⟩ := h1.val; have HL := hid (Own.lx rc_lays h1); clear hm h1 h3)
            | fail)
          have HT6 := hid (hT'.out.mod Hm.out)
          have hkr := hid hI'.out.kr
          have hl6 := hI'.out.len
          clear Ht Hm hT' hst
          obtain ⟨og, rfl⟩ : ∃ og, og = gk := ⟨_, rfl⟩
          go_wp2
          go_loopg [21] t'.ops.length (fun g p wr => ∃ j : Nat, p = .int .i64 ((j : Int) + 1) ∧ j + g = t'.ops.length ∧ Hid (Mod [] w' wr))
          · exact ⟨0, by simp, by omega, Mod.refl _ _⟩
          · obtain ⟨j, rfl, hj, hM⟩ := hrel
            by_cases hlj : j + 1 < t'.ops.length
            · have hj1 : (j : Int) + 1 < (t'.ops.length : Int) := by omega
              have hj2 : (j : Int) < (t'.ops.length : Int) := by omega
              have hj0 : (0 : Int) ≤ (j : Int) := by omega
              have hj3 : (0 : Int) ≤ (j : Int) + 1 := by omega
              have hj4 : ((j : Int) + 1).toNat = j + 1 := by omega
              obtain ⟨y, hy⟩ : ∃ y, t'.ops[j]? = some y := ⟨_, List.getElem?_eq_getElem (by omega)⟩
              obtain ⟨z, hz⟩ : ∃ z, t'.ops[j + 1]? = some z := ⟨_, List.getElem?_eq_getElem (by omega)⟩
              have hlt : SL y.key z.key := by
                obtain ⟨h1, rfl⟩ := List.getElem?_eq_some_iff.1 hy
                obtain ⟨h2, rfl⟩ := List.getElem?_eq_some_iff.1 hz
                exact List.pairwise_iff_getElem.1 hkr.out j (j + 1) h1 h2 (by omega)
              obtain ⟨gb, go, rfl, hc⟩ := (HL.out.mod hM.out).at hy
              obtain ⟨gb', go', e0, hd⟩ := (HL.out.mod hM.out).at hz
              simp only [Option.some.injEq, Addr.mk.injEq, and_true] at e0
              obtain ⟨rfl, rfl⟩ := e0
              have k0 := hc 0 _ rfl
              have k1 := hd 0 _ rfl
              simp only [Nat.add_zero] at k0 k1
              have hb := blS_yes hlt
              clear hlt hy hz hc hd
              go_upto_region 60 with (fail)
              go_region
              all_goals
                go_wp2
                go_roundg (gk - 1)
                case measure => omega
                case rel => exact ⟨j + 1, by go_num, by omega, hM.out.drew⟩
            · have hj1 : ¬ (j : Int) + 1 < (t'.ops.length : Int) := by omega
              go_wp2
              go_roundg (og - 1)
              case measure => omega
              case rel => exact ⟨i + 1, taken', told', t', rfl, rfl, by go_num, by omega, hI', hid (HT6.out.mod hM.out)⟩
    · rcases (by omega : ¬ i < xs.length ∨ (i < xs.length ∧ ¬ i < 60)) with h1 | ⟨h1, h2⟩
      all_goals
        have hcn := hI.out.cnt
        have hcc : told ≤ taken ∧ taken ≤ told + 1 := by split at hcn <;> omega
        have k1 : (told : Int) ≤ (taken : Int) := by omega
        have k2 : ¬ ((told : Int) + 1 < (taken : Int)) := by omega
        have k3 : (taken : Int) ≤ (told : Int) + 1 := by omega
        have k4 : (told : Int) + 1 ≤ 1000 := by have := hI.out.tk; omega
        clear hlt hcn hcc
        go_wp2_with (go_at_call 10; refine (works_c _).mono ?_; rintro e w' ⟨rfl, hm⟩; have Hm := hid hm; clear hm)
        go_ret
        exact ⟨rfl, hT.out.m.tr Hm.out⟩
end Go.Proofs.Ytocfeeecgpklnaa
