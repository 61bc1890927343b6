/- TxnKnown: the walk. -/
import Derived.Test.YtocfeeecgpklnaaTYL
namespace Go.Proofs.Ytocfeeecgpklnaa
set_option linter.unusedVariables false
set_option linter.unusedSimpArgs false
set_option linter.unusedSectionVars false
open Go.RowKit Go.Shelf

def rfL (x : Cl × Int) : List Value := [.int .i64 x.1.kind, .int .u64 x.1.ts, .string x.1.key, .string x.1.hi, .string x.1.val, .int .i64 x.2]
theorem rf_lays : Lays 6 rfL := ⟨fun _ => rfl, fun x u hu => by simp [rfL] at hu; rcases hu with rfl | rfl | rfl | rfl | rfl | rfl <;> rfl, by decide⟩
theorem refs_own (W : World) (T : TypeId) : Own (W.alloc (.cells (flat rfL refs).toArray T)) T 6 (.slice (some ⟨W.heap.size, 0, none⟩) 13 13) 13 (flat rfL refs) [W.heap.size] :=
  ⟨rfl, Or.inr ⟨_, 13, _, rfl, rfl, Blk.new W _ _, by decide, by decide, by decide, rfl⟩⟩

theorem Blk.cl {w : World} {q : Nat} {c : Cl} {T : TypeId} (h : Blk w q (clC c) T) :
    w.cell? ⟨q, 0, none⟩ = some (.int .i64 c.kind) ∧ w.cell? ⟨q, 1, none⟩ = some (.int .u64 c.ts) ∧ w.cell? ⟨q, 2, none⟩ = some (.string c.key) ∧ w.cell? ⟨q, 3, none⟩ = some (.string c.hi) ∧ w.cell? ⟨q, 4, none⟩ = some (.string c.val) ∧ q < w.heap.size :=
  ⟨h.cell 0, h.cell 1, h.cell 2, h.cell 3, h.cell 4, h.lt⟩

theorem conv_one (w : World) (x : Nat) : (convert 69 9 (.slice (some ⟨w.heap.size, 0, none⟩) 1 1)).run Try.prog (w.alloc (.cells #[.int .u8 (x : Nat)] 5)) = .ok (.string ⟨#[UInt8.ofNat x]⟩) (w.alloc (.cells #[.int .u8 (x : Nat)] 5)) := by
  rw [run_convert_bytes_arg _ 69 5 Try.underlying69 Try.underlying5 w.heap.size 0 1 1 [(x : Int)] rfl (by
    intro i hi
    rw [Nat.zero_add, (Blk.new w _ _).cell]
    obtain rfl : i = 0 := by omega
    rfl) 9 Try.underlying9]
  rfl

set_option maxRecDepth 100000 in
set_option maxHeartbeats 8000000 in
theorem known_walk (w : World) : Calls Try.prog 7 #[] w fun e w' => e = .returned (.bool true) ∧ Mod [] w w' := by
  have H0 := hid (Top.start w)
  go_enter Try.func7, Try.ntmps7
  go_wp2_with fail
  refine (new_c w 5 0 (by decide)).mono ?_
  intro e w1 hs
  obtain ⟨rfl, hT⟩ := H0.out.new hs
  have H1 := hid hT
  clear hT hs H0
  obtain ⟨b, hb⟩ : ∃ b, b = w.heap.size := ⟨_, rfl⟩
  rw [← hb] at H1 ⊢
  clear hb
  go_wp2_with (first
    | (go_at_call 14; refine (state_k H1.out (s := 0) rfl).mono ?_; rintro e w' ⟨rfl, rfl⟩)
    | (go_at_call 24; refine (ts_k H1.out (s := 5) rfl).mono ?_; rintro e w' ⟨rfl, rfl⟩))
  have hT := ((((H1.out.box (clC kRead) 24).swap).made (R' := rowR 67 6 _ 13 _) (refs_own _ 67) ((Mod.refl [] _).alloc _) (by simp)).swap)
  simp only [World.size_alloc] at hT
  obtain ⟨rb, hrb⟩ : ∃ rb, rb = w1.heap.size := ⟨_, rfl⟩
  rw [← hrb] at hT ⊢
  have HT := hid hT
  clear hT H1 hrb
  go_loopg [91] 13 (fun g p wr => ∃ i : Nat, p = .int .i64 i ∧ i + g = 13 ∧ Hid (Top w (star (txR b q0) (star (rowR 67 6 (.slice (some ⟨rb + 1, 0, none⟩) 13 13) 13 (flat rfL refs)) (star (boxR rb (clC kRead) 24) emp))) wr))
  · exact ⟨0, rfl, rfl, HT⟩
  · clear HT
    obtain ⟨i, rfl, hig, HT⟩ := hrel
    by_cases hi : i < 13
    · have hi1 : (i : Int) < 13 := by omega
      obtain ⟨x, hx⟩ : ∃ x, refs[i]? = some x := ⟨_, List.getElem?_eq_getElem hi⟩
      have hs := hid (refs_said hx)
      obtain ⟨L, hL⟩ := HT.out.swap.res
      obtain ⟨_, _, e0, hc⟩ := (Own.lx rf_lays hL).at hx
      simp only [Option.some.injEq, Addr.mk.injEq, and_true] at e0
      obtain ⟨rfl, rfl⟩ := e0
      have c0 := hc 0 _ rfl
      have c1 := hc 1 _ rfl
      have c2 := hc 2 _ rfl
      have c3 := hc 3 _ rfl
      have c4 := hc 4 _ rfl
      have c5 := hc 5 _ rfl
      simp only [Nat.zero_add, Nat.add_zero] at c0 c1 c2 c3 c4 c5
      clear hL hc hx
      have hB := (HT.out.box (rfL x).toArray 67).swap
      obtain ⟨g, hg⟩ : ∃ g, g = wr.heap.size := ⟨_, rfl⟩
      rw [← hg] at hB
      have HB := hid hB
      clear hB
      go_wp2_with fail
      refine (call_k HB.out x.1 1 Kr.nil (by decide) (by decide) hs.out).mono ?_
      rintro e w2 ⟨rfl, hT⟩
      have HT2 := hid hT
      have hbl := hT.drop.get.lt
      have c5b := hT.drop.get.cell 5
      simp only [rfL, List.getElem?_toArray, List.getElem?_cons_zero, List.getElem?_cons_succ] at c5b
      rw [← hg]
      clear hT HT HB c0 c1 c2 c3 c4 c5 hs hg
      go_wp2_with (go_at_call 14; refine (state_k HT2.out (s := 0) rfl).mono ?_; rintro e w' ⟨rfl, rfl⟩)
      go_roundg (gk - 1)
      case measure => omega
      case rel => exact ⟨i + 1, by go_num, by omega, HT2.out.drop2⟩
    · have hi1 : ¬ (i : Int) < 13 := by omega
      have H1 := hid HT.out.drop2
      obtain ⟨r0, r1, r2, r3, r4, rl⟩ := H1.out.drop.get.cl
      clear HT hi
      go_wp2_with fail
      refine (call_k H1.out kRead 1 Kr.nil (by decide) (by decide) kq1).mono ?_
      rintro e w2 ⟨rfl, hT⟩
      have H2 := hid hT
      clear hT H1 r0 r1 r2 r3 r4 rl
      go_wp2_with fail
      refine (pending_k H2.out (c := kRead) (z := true) ⟨rfl, rfl⟩).mono ?_
      rintro e w3 ⟨rfl, hT⟩
      obtain ⟨cb, hcb⟩ : ∃ cb, cb = w3.heap.size := ⟨_, rfl⟩
      have hT2 := (hT.box (clC kRead) 24).swap
      rw [← hcb] at hT2
      have H3 := hid hT2
      have HCB := hid hcb
      clear hT hT2 H2 hcb
      go_wp2_with fail
      rw [← HCB.out]
      refine (wait_k H3.out kq2).mono ?_
      rintro e w4 ⟨rfl, hT⟩
      have H4 := hid hT
      clear hT H3
      go_wp2_with fail
      refine (state_k H4.out (s := 1) rfl).mono ?_
      rintro e w' ⟨rfl, rfl⟩
      obtain ⟨r0, r1, r2, r3, r4, rl⟩ := H4.out.drop.drop.get.cl
      go_wp2_with fail
      refine (call_k H4.out kRead 2 Kr.nil (by decide) (by decide) kq2b).mono ?_
      rintro e w5 ⟨rfl, hT⟩
      have H5 := hid hT
      clear hT H4 r0 r1 r2 r3 r4 rl
      go_wp2_with fail
      refine (answer_k H5.out oIn 2 kq3).mono ?_
      rintro e w6 ⟨rfl, hT⟩
      obtain ⟨ob, hob⟩ : ∃ ob, ob = w6.heap.size := ⟨_, rfl⟩
      have hT2 := (hT.box (ocC oOut) 54).swap
      rw [← hob] at hT2
      have H6 := hid hT2
      have HOB := hid hob
      clear hT hT2 H5 hob
      go_wp2_with fail
      rw [← HOB.out]
      refine (answer_k H6.out oc0 2 kq3b).mono ?_
      rintro e w7 ⟨rfl, hT⟩
      have H7 := hid hT
      obtain ⟨⟨o0, o1, o2, o3, o4, o5⟩, _, _, _, _, _, _⟩ := hT.drop.get.oc
      have ol := hT.drop.get.lt
      obtain ⟨c0, c1, c2, c3, c4, cl⟩ := hT.drop.drop.get.cl
      obtain ⟨r0, r1, r2, r3, r4, rl⟩ := hT.drop.drop.drop.get.cl
      have hgc := call_g
      have hn1 := call_neq kRead
      clear hT H6
      go_wp2_with fail
      refine (state_k (H7.out.alloc _) (s := 0) rfl).mono ?_
      rintro e w' ⟨rfl, rfl⟩
      go_wp2_with fail
      refine (idle_k (H7.out.alloc _) 65 (by decide) kqi.1).mono ?_
      rintro e w' ⟨rfl, rfl⟩
      go_wp2_with fail
      refine (idle_k (H7.out.alloc _) 66 (by decide) kqi.2).mono ?_
      rintro e w' ⟨rfl, rfl⟩
      clear o0 o1 o2 o3 o4 o5 ol c0 c1 c2 c3 c4 cl r0 r1 r2 r3 r4 rl hgc hn1
      have H8 := hid ((H7.out.drop2.drop2).alloc (.cells (ocC oc0) 54))
      clear H7
      go_wp2_with fail
      go_loopg [18] 6 (fun g p wr => ∃ i : Nat, p = .int .i64 i ∧ i + g = 6 ∧ Hid (Top w (star (txR b (qw (opsK i))) (star (boxR rb (clC kRead) 24) emp)) wr))
      · exact ⟨0, rfl, rfl, H8⟩
      · clear H8
        obtain ⟨i, rfl, hig, HT⟩ := hrel
        by_cases hi : i < 6
        · have hi1 : (i : Int) < 6 := by omega
          obtain ⟨x, hx⟩ : ∃ x : Nat, x = 102 - i := ⟨_, rfl⟩
          have hu1 : IntKind.u8.wrap (i : Int) = (i : Int) := by rw [IntKind.wrap_u8]; omega
          have hu2 : IntKind.u8.wrap (102 - (i : Int)) = (x : Int) := by rw [IntKind.wrap_u8]; omega
          have hs := hid (kqw i hi)
          rw [show rk i = ⟨⟨#[UInt8.ofNat x]⟩, 7, false, vB⟩ by rw [hx]; rfl] at hs
          have HK := hid (kr_opsK i (by omega))
          have hcv := conv_one wr x
          clear hx hi
          go_wp2_with fail
          refine (wrote_k (HT.out.alloc _) _ HK.out.1 HK.out.2 hs.out).mono ?_
          rintro e w2 ⟨rfl, hT⟩
          have HT2 := hid hT
          clear hT HT hcv hs HK
          go_wp2_with fail
          go_roundg (gk - 1)
          case measure => omega
          case rel => exact ⟨i + 1, by go_num, by omega, HT2⟩
        · have hi1 : ¬ (i : Int) < 6 := by omega
          obtain rfl : i = 6 := by omega
          have H9 := hid HT.out
          rw [kops.2] at H9
          clear HT hi hig
          go_wp2_with fail
          refine (ops_r H9.out (by decide) (by decide)).mono ?_
          rintro e w9 ⟨og, ocap, rfl, hT⟩
          have H10 := hid hT
          clear hT H9
          go_wp2_with fail
          refine (call_k H10.out kWz 3 kr6 (by decide) (by decide) kq5a).mono ?_
          rintro e w10 ⟨rfl, hT⟩
          have H11 := hid hT
          clear hT H10
          go_wp2_with fail
          refine (call_k H11.out kDel 3 kr6 (by decide) (by decide) kq5).mono ?_
          rintro e w11 ⟨rfl, hT⟩
          have H12 := hid hT
          obtain ⟨ol, oc1, oc2, hoc⟩ := row_cells hT (by decide)
          have o0 := hoc 0 (by decide)
          have o1 := hoc 1 (by decide)
          have o2 := hoc 2 (by decide)
          have o3 := hoc 3 (by decide)
          simp only [flat, ops6, rcC, List.flatMap_cons, List.cons_append, List.nil_append, List.getElem?_cons_zero, List.getElem?_cons_succ] at o0 o1 o2 o3
          have hn2 := rec_neq ⟨⟨#[97]⟩, 0, false, vB⟩
          have hrg : Try.prog.eqGuardType Try.prog.depth 32 = false := by kernel_rfl
          clear hT H11 hoc
          go_wp2_with fail
          refine (wrote_k H12.out rZ kr6 (by decide) kq6a).mono ?_
          rintro e w12 ⟨rfl, hT⟩
          have H13 := hid hT
          clear hT H12 o0 o1 o2 o3 ol oc1 oc2 hn2 hrg
          go_wp2_with fail
          refine (wrote_k H13.out rDel kr6 (by decide) kq6).mono ?_
          rintro e w13 ⟨rfl, hT⟩
          have H14 := hid hT.drop2
          clear hT H13
          go_wp2_with fail
          refine (ops_r H14.out (by decide) (by decide)).mono ?_
          rintro e w14 ⟨og2, ocap2, rfl, hT⟩
          have H15 := hid hT.drop2
          clear hT H14
          go_wp2_with fail
          refine (ops_r H15.out (by decide) (by decide)).mono ?_
          rintro e w15 ⟨og3, ocap3, rfl, hT⟩
          have H16 := hid hT.drop2
          obtain ⟨ol, oc1, oc2, hoc⟩ := row_cells hT (by decide)
          have o2 := hoc 2 (by decide)
          simp only [flat, ops7, rcC, List.flatMap_cons, List.cons_append, List.nil_append, List.getElem?_cons_zero, List.getElem?_cons_succ] at o2
          clear hT H15 hoc
          go_wp2_with fail
          refine (wrote_k H16.out rNo kr7 (by decide) kq6b).mono ?_
          rintro e w16 ⟨rfl, hT⟩
          have H17 := hid hT
          clear hT H16 o2 ol oc1 oc2
          go_wp2_with fail
          refine (idle_k H17.out 999 (by decide) kq6i).mono ?_
          rintro e w' ⟨rfl, rfl⟩
          go_wp2_with fail
          refine (answer_k H17.out oc0 3 ⟨kq7.1, rfl, kq7.2⟩).mono ?_
          rintro e w18 ⟨rfl, hT⟩
          have H18 := hid hT
          clear hT H17
          go_wp2_with fail
          refine (call_k H18.out kCom 4 kr7 (by decide) (by decide) kq8).mono ?_
          rintro e w19 ⟨rfl, hT⟩
          have H19 := hid hT
          clear hT H18
          go_wp2_with fail
          refine (state_k H19.out (s := 2) rfl).mono ?_
          rintro e w' ⟨rfl, rfl⟩
          go_wp2_with fail
          refine (idle_k H19.out 999 (by decide) kq8i).mono ?_
          rintro e w' ⟨rfl, rfl⟩
          go_wp2_with fail
          refine (log_k H19.out 9 kq9).mono ?_
          rintro e w20 ⟨rfl, hT⟩
          have H20 := hid hT
          clear hT H19
          go_wp2_with fail
          refine (log_k H20.out 9 kq9b).mono ?_
          rintro e w21 ⟨rfl, hT⟩
          have H21 := hid hT
          clear hT H20
          go_wp2_with fail
          refine (need_k H21.out 3 kq9c).mono ?_
          rintro e w22 ⟨rfl, hT⟩
          have H22 := hid hT
          clear hT H21
          go_wp2_with fail
          refine (need_k H22.out 12 kq10).mono ?_
          rintro e w23 ⟨rfl, hT⟩
          have H23 := hid hT
          clear hT H22
          go_wp2_with fail
          refine (answer_k H23.out oc0 4 kq10b).mono ?_
          rintro e w24 ⟨rfl, hT⟩
          have H24 := hid hT
          clear hT H23
          go_wp2_with fail
          refine (end_k (H24.out.alloc _) 0 kq11).mono ?_
          rintro e w25 ⟨rfl, hT⟩
          obtain ⟨eb, heb⟩ : ∃ eb, eb = w25.heap.size := ⟨_, rfl⟩
          have hT2 := (hT.box (ocC oEnd) 54).swap
          rw [← heb] at hT2
          have H25 := hid hT2
          have HEB := hid heb
          clear hT hT2 H24 heb
          go_wp2_with fail
          rw [← HEB.out]
          refine (end_k H25.out 15 kq11b).mono ?_
          rintro e w26 ⟨rfl, hT⟩
          have H26 := hid hT
          clear hT H25
          go_wp2_with fail
          refine (call_k (H26.out.alloc _) kAb 5 kr7 (by decide) (by decide) kq11c).mono ?_
          rintro e w27 ⟨rfl, hT⟩
          have H27 := hid hT
          clear hT H26
          go_wp2_with fail
          refine (new_c w27 1 0 (by decide)).mono ?_
          intro e w28 hs
          obtain ⟨rfl, hT⟩ := H27.out.new hs
          obtain ⟨ab, hab⟩ : ∃ ab, ab = w27.heap.size := ⟨_, rfl⟩
          rw [← hab] at hT ⊢
          have H28 := hid hT
          clear hT hs H27 hab
          go_wp2_with fail
          refine (new_c w28 2 0 (by decide)).mono ?_
          intro e w29 hs
          obtain ⟨rfl, hT⟩ := H28.out.new hs
          obtain ⟨bb, hbb⟩ : ∃ bb, bb = w28.heap.size := ⟨_, rfl⟩
          rw [← hbb] at hT ⊢
          have H29 := hid hT.swap
          clear hT hs H28 hbb
          go_wp2_with fail
          refine (call_k H29.out kCom1 0 Kr.nil (by decide) (by decide) ka1).mono ?_
          rintro e w30 ⟨rfl, hT⟩
          have H30 := hid hT
          clear hT H29
          go_wp2_with fail
          refine (end_k H30.out 0 ka2).mono ?_
          rintro e w31 ⟨rfl, hT⟩
          obtain ⟨xb, hxb⟩ : ∃ xb, xb = w31.heap.size := ⟨_, rfl⟩
          have hT2 := (hT.box (ocC oA) 54).swap.swap2.swap
          rw [← hxb] at hT2
          have H31 := hid hT2
          have HXB := hid hxb
          clear hT hT2 H30 hxb
          go_wp2_with fail
          rw [← HXB.out]
          refine (end_k H31.out 0 kb2).mono ?_
          rintro e w32 ⟨rfl, hT⟩
          have H32 := hid (((hT.alloc (.cells (ocC oc0) 54)).ent (Ent.under _ (Ent.under _ (ent_swap _ _ _)))).swap2.swap)
          clear hT H31
          go_wp2_with fail
          refine (n_wait _).mono ?_
          rintro e w33 ⟨rfl, hm⟩
          have H33 := hid (H32.out.mod hm)
          obtain ⟨r0, r1, r2, r3, r4, rl⟩ := H33.out.drop.drop.drop.drop.drop.get.cl
          clear hm H32
          go_wp2_with fail
          refine (n_call _ kRead 0).mono ?_
          rintro e w34 ⟨rfl, hm⟩
          have H34 := hid (H33.out.mod hm)
          clear hm H33 r0 r1 r2 r3 r4 rl
          go_wp2_with fail
          refine (n_pending _).mono ?_
          rintro e w35 ⟨rfl, hm⟩
          have H35 := hid ((H34.out.mod hm).alloc (.cells (clC cl0) 24))
          clear hm H34
          go_wp2_with fail
          refine (n_answer _ oc0 0).mono ?_
          rintro e w36 ⟨rfl, hm⟩
          have H36 := hid ((H35.out.mod hm).alloc (.cells (ocC oc0) 54))
          clear hm H35
          go_wp2_with fail
          refine (n_end _ 0).mono ?_
          rintro e w37 ⟨rfl, hm⟩
          have H37 := hid ((H36.out.mod hm).alloc (.cells (ocC oc0) 54))
          obtain ⟨⟨e0, e1, e2, e3, e4, e5⟩, _, _, _, _, _, _⟩ := (H36.out.mod hm).drop.drop.drop.drop.get.oc
          have el := (H36.out.mod hm).drop.drop.drop.drop.get.lt
          clear hm H36
          go_wp2_with fail
          refine (state_k H37.out (s := 4) rfl).mono ?_
          rintro e w' ⟨rfl, rfl⟩
          clear e0 e1 e2 e3 e4 e5 el
          go_wp2_with fail
          refine (wrote_k H37.out rA kr7 (by decide) kq11d).mono ?_
          rintro e w38 ⟨rfl, hT⟩
          have H38 := hid hT
          obtain ⟨⟨e0, e1, e2, e3, e4, e5⟩, _, _, _, _, _, _⟩ := hT.drop.drop.drop.get.oc
          have el := hT.drop.drop.drop.get.lt
          clear hT H37
          go_wp2_with fail
          refine (state_k H38.out.swap2.swap (s := 5) rfl).mono ?_
          rintro e w' ⟨rfl, rfl⟩
          clear e0 e1 e2 e3 e4 e5 el
          go_wp2_with fail
          refine (state_k H38.out.swap (s := 5) rfl).mono ?_
          rintro e w' ⟨rfl, rfl⟩
          have HM := hid H38.out.m
          clear H38
          go_wp2_with fail
          refine (new_nil _ 0).mono ?_
          rintro e w' ⟨rfl, rfl⟩
          go_wp2_with fail
          refine (n_ts _).mono ?_
          rintro e w39 ⟨rfl, hm⟩
          have HM := hid (HM.out.tr hm)
          clear hm
          go_wp2_with fail
          refine (n_state _).mono ?_
          rintro e w40 ⟨rfl, hm⟩
          have HM := hid (HM.out.tr hm)
          clear hm
          go_wp2_with fail
          refine (n_wrote _ rA).mono ?_
          rintro e w41 ⟨rfl, hm⟩
          have HM := hid (HM.out.tr hm)
          clear hm
          go_wp2_with fail
          refine (n_ops _).mono ?_
          rintro e w42 ⟨rfl, hm⟩
          have HM := hid (HM.out.tr hm)
          clear hm
          go_wp2_with fail
          refine (n_need _ 4).mono ?_
          rintro e w43 ⟨rfl, hm⟩
          have HM := hid (HM.out.tr hm)
          clear hm
          go_wp2_with fail
          refine (n_log _ 1).mono ?_
          rintro e w44 ⟨rfl, hm⟩
          have HM := hid (HM.out.tr hm)
          clear hm
          go_wp2_with fail
          refine (n_idle _ 999).mono ?_
          rintro e w45 ⟨rfl, hm⟩
          have HM := hid (HM.out.tr hm)
          clear hm
          go_wp2_with fail
          refine (works_c _).mono ?_
          rintro e w46 ⟨rfl, hm⟩
          have HM := hid (HM.out.tr hm)
          clear hm
          go_wp2_with fail
          go_ret
          exact ⟨rfl, HM.out⟩
end Go.Proofs.Ytocfeeecgpklnaa
