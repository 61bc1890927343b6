/- Script: parts YK. -/
import Derived.Test.YtibhkldnimfnkaaGreatDoorG10

/- Script: the table (printed by mkYK.py). -/
namespace Go.Proofs.YtibhkldnimfnkaaGreatDoor
section
set_option linter.unusedVariables false
set_option linter.unusedSimpArgs false
set_option linter.unusedSectionVars false
open Go.RowKit

/-- What each operation comes to. -/
def tblS : List Sp := [
  .pl (.nA 0 399),
  .pls [.nA 0 399],
  .row ⟨[100, 101, 108, 105, 118, 101, 114], 0, 0, [.nA 0 399]⟩,
  .pl (.nA 0 399),
  .pls [.nA 0 399],
  .row ⟨[100, 114, 111, 112], 1, 0, [.nA 0 399]⟩,
  .pl (.nA 0 399),
  .pls [.nA 0 399],
  .row ⟨[116, 119, 105, 99, 101], 2, 0, [.nA 0 399]⟩,
  .pl (.who),
  .pls [.who],
  .row ⟨[116, 105, 99, 107], 3, 0, [.who]⟩,
  .pl (.who),
  .pls [.who],
  .row ⟨[102, 108, 117, 115, 104], 4, 0, [.who]⟩,
  .row ⟨[99, 108, 101, 97, 110], 5, 0, []⟩,
  .row ⟨[99, 107, 112, 116], 7, 0, []⟩,
  .pl (.who),
  .pl (.nB 1 999),
  .pls [.who, .nB 1 999],
  .row ⟨[101, 118, 105, 99, 116], 6, 0, [.who, .nB 1 999]⟩,
  .pl (.who),
  .pl (.nB 0 999),
  .pls [.who, .nB 0 999],
  .row ⟨[99, 114, 97, 115, 104], 8, 0, [.who, .nB 0 999]⟩,
  .pl (.who),
  .pl (.nB 0 999),
  .pls [.who, .nB 0 999],
  .row ⟨[119, 97, 107, 101], 9, 0, [.who, .nB 0 999]⟩,
  .row ⟨[98, 101, 103, 105, 110], 10, 0, []⟩,
  .pl (.ts),
  .pl (.key 1),
  .pls [.ts, .key 1],
  .row ⟨[114, 101, 97, 100], 10, 1, [.ts, .key 1]⟩,
  .pl (.ts),
  .pl (.key 1),
  .pls [.ts, .key 1],
  .row ⟨[100, 101, 108, 101, 116, 101], 10, 4, [.ts, .key 1]⟩,
  .pl (.ts),
  .pl (.key 0),
  .pl (.hi),
  .pls [.ts, .key 0, .hi],
  .row ⟨[115, 99, 97, 110], 10, 2, [.ts, .key 0, .hi]⟩,
  .pl (.ts),
  .pl (.key 1),
  .pl (.val),
  .pls [.ts, .key 1, .val],
  .row ⟨[119, 114, 105, 116, 101], 10, 3, [.ts, .key 1, .val]⟩,
  .pl (.ts),
  .pls [.ts],
  .row ⟨[99, 111, 109, 109, 105, 116], 10, 5, [.ts]⟩,
  .pl (.ts),
  .pls [.ts],
  .row ⟨[97, 98, 111, 114, 116], 10, 6, [.ts]⟩,
  .pl (.nA 1 9999),
  .pls [.nA 1 9999],
  .row ⟨[99, 97, 108, 109], 11, 0, [.nA 1 9999]⟩,
  .all,
  .all]

set_option maxRecDepth 100000 in
theorem all_run (s0 s1 s2 s3 s4 s5 s6 s7 s8 s9 s10 s11 s12 s13 s14 s15 s16 s17 : Value) (W : World) : (Instr.buildSlice 88 18 #[(0, .agg #[.string (str [100, 101, 108, 105, 118, 101, 114]), .int .i64 0, .int .i64 0, s0]), (1, .agg #[.string (str [100, 114, 111, 112]), .int .i64 1, .int .i64 0, s1]), (2, .agg #[.string (str [116, 119, 105, 99, 101]), .int .i64 2, .int .i64 0, s2]), (3, .agg #[.string (str [116, 105, 99, 107]), .int .i64 3, .int .i64 0, s3]), (4, .agg #[.string (str [102, 108, 117, 115, 104]), .int .i64 4, .int .i64 0, s4]), (5, .agg #[.string (str [99, 108, 101, 97, 110]), .int .i64 5, .int .i64 0, s5]), (6, .agg #[.string (str [99, 107, 112, 116]), .int .i64 7, .int .i64 0, s6]), (7, .agg #[.string (str [101, 118, 105, 99, 116]), .int .i64 6, .int .i64 0, s7]), (8, .agg #[.string (str [99, 114, 97, 115, 104]), .int .i64 8, .int .i64 0, s8]), (9, .agg #[.string (str [119, 97, 107, 101]), .int .i64 9, .int .i64 0, s9]), (10, .agg #[.string (str [98, 101, 103, 105, 110]), .int .i64 10, .int .i64 0, s10]), (11, .agg #[.string (str [114, 101, 97, 100]), .int .i64 10, .int .i64 1, s11]), (12, .agg #[.string (str [100, 101, 108, 101, 116, 101]), .int .i64 10, .int .i64 4, s12]), (13, .agg #[.string (str [115, 99, 97, 110]), .int .i64 10, .int .i64 2, s13]), (14, .agg #[.string (str [119, 114, 105, 116, 101]), .int .i64 10, .int .i64 3, s14]), (15, .agg #[.string (str [99, 111, 109, 109, 105, 116]), .int .i64 10, .int .i64 5, s15]), (16, .agg #[.string (str [97, 98, 111, 114, 116]), .int .i64 10, .int .i64 6, s16]), (17, .agg #[.string (str [99, 97, 108, 109]), .int .i64 11, .int .i64 0, s17])]).run Tryz.prog W = .ok (.slice (some ⟨W.heap.size, 0, none⟩) 18 18) (W.alloc (.cells #[.string (str [100, 101, 108, 105, 118, 101, 114]), .int .i64 0, .int .i64 0, s0, .string (str [100, 114, 111, 112]), .int .i64 1, .int .i64 0, s1, .string (str [116, 119, 105, 99, 101]), .int .i64 2, .int .i64 0, s2, .string (str [116, 105, 99, 107]), .int .i64 3, .int .i64 0, s3, .string (str [102, 108, 117, 115, 104]), .int .i64 4, .int .i64 0, s4, .string (str [99, 108, 101, 97, 110]), .int .i64 5, .int .i64 0, s5, .string (str [99, 107, 112, 116]), .int .i64 7, .int .i64 0, s6, .string (str [101, 118, 105, 99, 116]), .int .i64 6, .int .i64 0, s7, .string (str [99, 114, 97, 115, 104]), .int .i64 8, .int .i64 0, s8, .string (str [119, 97, 107, 101]), .int .i64 9, .int .i64 0, s9, .string (str [98, 101, 103, 105, 110]), .int .i64 10, .int .i64 0, s10, .string (str [114, 101, 97, 100]), .int .i64 10, .int .i64 1, s11, .string (str [100, 101, 108, 101, 116, 101]), .int .i64 10, .int .i64 4, s12, .string (str [115, 99, 97, 110]), .int .i64 10, .int .i64 2, s13, .string (str [119, 114, 105, 116, 101]), .int .i64 10, .int .i64 3, s14, .string (str [99, 111, 109, 109, 105, 116]), .int .i64 10, .int .i64 5, s15, .string (str [97, 98, 111, 114, 116]), .int .i64 10, .int .i64 6, s16, .string (str [99, 97, 108, 109]), .int .i64 11, .int .i64 0, s17] 93)) := by kernel_rfl

section
variable {ops : Array Oper} {Q : Exit → Act → World → Prop} {a0 : Act} {N : Nat} {w1 : World} {T : List Sp}
theorem step_move {i j t d : Nat} {s : Sp} {o oj : Oper} (ho : o.op = .assign (.tmp t)) (hd : o.dst = some d) (hj : ops[j]? = some oj) (hjd : oj.dst = some t) (hja : (⟨j, .data⟩ : Edge) ∈ o.after) (hjs : T[j]? = some s) (hs : T[i]? = some s) : Step1 Tryz.prog ops Q (SS w1) (SV N T) a0 i o := by
  intro listed a W hR hall K hK
  have hm : Mod [] w1 W := hR.world
  have h1 := hR.val j hj hjd (hall _ hja rfl)
  simp only [SV, hjs, Option.getD_some] at h1
  refine Oper.wp_value (a.tmps[t]?.getD undef) (w' := W) ?_ (hK _ _ hm ?_ (fun _ _ _ h => h))
  · unfold execOp
    rw [ho]
    simp [go_sem]
  · rw [hd]
    simp only [SV, hs, Option.getD_some]
    exact h1
set_option maxRecDepth 100000 in
set_option maxHeartbeats 2000000 in
theorem step_all {i d : Nat} {o : Oper} (hN : N ≤ w1.heap.size) (ho : o.op = .buildSlice 88 18 #[(0, .tmp 17), (1, .tmp 20), (2, .tmp 23), (3, .tmp 26), (4, .tmp 29), (5, .tmp 30), (6, .tmp 31), (7, .tmp 35), (8, .tmp 39), (9, .tmp 43), (10, .tmp 44), (11, .tmp 48), (12, .tmp 52), (13, .tmp 57), (14, .tmp 62), (15, .tmp 65), (16, .tmp 68), (17, .tmp 71)]) (hd : o.dst = some d)
    (hv : ∀ listed a W, RegAt ops (SS w1) (SV N tblS) a0 listed a W → (∀ e ∈ o.after, Region.binds .any e = true → listed.getD e.on false = true) → RwVal N ⟨[100, 101, 108, 105, 118, 101, 114], 0, 0, [.nA 0 399]⟩ (a.tmps[17]?.getD undef) W ∧ RwVal N ⟨[100, 114, 111, 112], 1, 0, [.nA 0 399]⟩ (a.tmps[20]?.getD undef) W ∧ RwVal N ⟨[116, 119, 105, 99, 101], 2, 0, [.nA 0 399]⟩ (a.tmps[23]?.getD undef) W ∧ RwVal N ⟨[116, 105, 99, 107], 3, 0, [.who]⟩ (a.tmps[26]?.getD undef) W ∧ RwVal N ⟨[102, 108, 117, 115, 104], 4, 0, [.who]⟩ (a.tmps[29]?.getD undef) W ∧ RwVal N ⟨[99, 108, 101, 97, 110], 5, 0, []⟩ (a.tmps[30]?.getD undef) W ∧ RwVal N ⟨[99, 107, 112, 116], 7, 0, []⟩ (a.tmps[31]?.getD undef) W ∧ RwVal N ⟨[101, 118, 105, 99, 116], 6, 0, [.who, .nB 1 999]⟩ (a.tmps[35]?.getD undef) W ∧ RwVal N ⟨[99, 114, 97, 115, 104], 8, 0, [.who, .nB 0 999]⟩ (a.tmps[39]?.getD undef) W ∧ RwVal N ⟨[119, 97, 107, 101], 9, 0, [.who, .nB 0 999]⟩ (a.tmps[43]?.getD undef) W ∧ RwVal N ⟨[98, 101, 103, 105, 110], 10, 0, []⟩ (a.tmps[44]?.getD undef) W ∧ RwVal N ⟨[114, 101, 97, 100], 10, 1, [.ts, .key 1]⟩ (a.tmps[48]?.getD undef) W ∧ RwVal N ⟨[100, 101, 108, 101, 116, 101], 10, 4, [.ts, .key 1]⟩ (a.tmps[52]?.getD undef) W ∧ RwVal N ⟨[115, 99, 97, 110], 10, 2, [.ts, .key 0, .hi]⟩ (a.tmps[57]?.getD undef) W ∧ RwVal N ⟨[119, 114, 105, 116, 101], 10, 3, [.ts, .key 1, .val]⟩ (a.tmps[62]?.getD undef) W ∧ RwVal N ⟨[99, 111, 109, 109, 105, 116], 10, 5, [.ts]⟩ (a.tmps[65]?.getD undef) W ∧ RwVal N ⟨[97, 98, 111, 114, 116], 10, 6, [.ts]⟩ (a.tmps[68]?.getD undef) W ∧ RwVal N ⟨[99, 97, 108, 109], 11, 0, [.nA 1 9999]⟩ (a.tmps[71]?.getD undef) W)
    (hs : tblS[i]? = some .all) : Step1 Tryz.prog ops Q (SS w1) (SV N tblS) a0 i o := by
  intro listed a W hR hall K hK
  have hm : Mod [] w1 W := hR.world
  obtain ⟨⟨s0, e0, h0⟩, ⟨s1, e1, h1⟩, ⟨s2, e2, h2⟩, ⟨s3, e3, h3⟩, ⟨s4, e4, h4⟩, ⟨s5, e5, h5⟩, ⟨s6, e6, h6⟩, ⟨s7, e7, h7⟩, ⟨s8, e8, h8⟩, ⟨s9, e9, h9⟩, ⟨s10, e10, h10⟩, ⟨s11, e11, h11⟩, ⟨s12, e12, h12⟩, ⟨s13, e13, h13⟩, ⟨s14, e14, h14⟩, ⟨s15, e15, h15⟩, ⟨s16, e16, h16⟩, ⟨s17, e17, h17⟩⟩ := hv listed a W hR hall
  have hl : Mod [] W (W.alloc (.cells #[.string (str [100, 101, 108, 105, 118, 101, 114]), .int .i64 0, .int .i64 0, s0, .string (str [100, 114, 111, 112]), .int .i64 1, .int .i64 0, s1, .string (str [116, 119, 105, 99, 101]), .int .i64 2, .int .i64 0, s2, .string (str [116, 105, 99, 107]), .int .i64 3, .int .i64 0, s3, .string (str [102, 108, 117, 115, 104]), .int .i64 4, .int .i64 0, s4, .string (str [99, 108, 101, 97, 110]), .int .i64 5, .int .i64 0, s5, .string (str [99, 107, 112, 116]), .int .i64 7, .int .i64 0, s6, .string (str [101, 118, 105, 99, 116]), .int .i64 6, .int .i64 0, s7, .string (str [99, 114, 97, 115, 104]), .int .i64 8, .int .i64 0, s8, .string (str [119, 97, 107, 101]), .int .i64 9, .int .i64 0, s9, .string (str [98, 101, 103, 105, 110]), .int .i64 10, .int .i64 0, s10, .string (str [114, 101, 97, 100]), .int .i64 10, .int .i64 1, s11, .string (str [100, 101, 108, 101, 116, 101]), .int .i64 10, .int .i64 4, s12, .string (str [115, 99, 97, 110]), .int .i64 10, .int .i64 2, s13, .string (str [119, 114, 105, 116, 101]), .int .i64 10, .int .i64 3, s14, .string (str [99, 111, 109, 109, 105, 116]), .int .i64 10, .int .i64 5, s15, .string (str [97, 98, 111, 114, 116]), .int .i64 10, .int .i64 6, s16, .string (str [99, 97, 108, 109]), .int .i64 11, .int .i64 0, s17] 93)) := (Mod.refl [] W).alloc _
  refine Oper.wp_value (.slice (some ⟨W.heap.size, 0, none⟩) 18 18) ?_ (hK _ _ (hm.tr hl) ?_ (fun _ _ _ h => Sp.later (Later.mod hl) h))
  · have := all_run s0 s1 s2 s3 s4 s5 s6 s7 s8 s9 s10 s11 s12 s13 s14 s15 s16 s17 W
    unfold execOp
    rw [ho]
    simp only [go_sem, Act.eval, List.map_toArray, List.map_cons, List.map_nil, Array.getD_eq_getD_getElem?, e0, e1, e2, e3, e4, e5, e6, e7, e8, e9, e10, e11, e12, e13, e14, e15, e16, e17] at this ⊢
    simp [go_sem, this]
  · rw [hd]
    simp only [SV, hs, Option.getD_some]
    exact ⟨W.heap.size, _, Nat.le_trans hN hm.size, rfl, Blk.new _ _ _, s0, _, rfl, h0.later (Later.mod hl), s1, _, rfl, h1.later (Later.mod hl), s2, _, rfl, h2.later (Later.mod hl), s3, _, rfl, h3.later (Later.mod hl), s4, _, rfl, h4.later (Later.mod hl), s5, _, rfl, h5.later (Later.mod hl), s6, _, rfl, h6.later (Later.mod hl), s7, _, rfl, h7.later (Later.mod hl), s8, _, rfl, h8.later (Later.mod hl), s9, _, rfl, h9.later (Later.mod hl), s10, _, rfl, h10.later (Later.mod hl), s11, _, rfl, h11.later (Later.mod hl), s12, _, rfl, h12.later (Later.mod hl), s13, _, rfl, h13.later (Later.mod hl), s14, _, rfl, h14.later (Later.mod hl), s15, _, rfl, h15.later (Later.mod hl), s16, _, rfl, h16.later (Later.mod hl), s17, _, rfl, h17.later (Later.mod hl), rfl⟩
end

theorem PlVal.form {N : Nat} {p : Pl} {u : Value} {w : World} (h : PlVal N p u w) : ∃ k c k' c', u = .agg #[.func (.func k) #[] c, .func (.func k') #[] c'] := by
  obtain ⟨k1, c1, k2, c2, rfl, _⟩ := h
  exact ⟨_, _, _, _, rfl⟩
set_option maxRecDepth 100000 in
set_option maxHeartbeats 4000000 in
/-- THE TABLE. -/
theorem rows_c (w : World) : Calls Tryz.prog 40 #[] w fun e w' => Mod [] w w' ∧ ∃ v, e = .returned v ∧ RwsVal w.heap.size v w' := by
  have hsf := fun (f : Nat) (a : Addr) (c : Array Value) (w : World) => run_store Tryz.prog w a (.func (.func f) #[] c) .plain rfl
  obtain ⟨X0, hX0⟩ : ∃ X, X = w := ⟨_, rfl⟩
  have HM0 := hid (show Mod [] X0 X0 from Mod.refl [] X0)
  rw [← hX0]
  clear hX0
  go_enter Tryz.func40, Tryz.ntmps40
  go_wp2_with fail
  refine (nA_pl 0 399 (by decide) X0).mono ?_
  rintro e w1 ⟨hm, u, rfl, hp⟩
  obtain ⟨k1, c1, l1, d1, rfl⟩ := hp.form
  obtain ⟨X1, hX⟩ : ∃ X, X = w1.alloc (.cells #[.func (.func k1) #[] c1, .func (.func l1) #[] d1] 99) := ⟨_, rfl⟩
  obtain ⟨b1, hb⟩ : ∃ b, b = w1.heap.size := ⟨_, rfl⟩
  have hms : Mod [] w1 X1 := by rw [hX]; exact (Mod.refl [] w1).alloc _
  have HB1 := hid (show Blk X1 b1 #[.func (.func k1) #[] c1, .func (.func l1) #[] d1] 99 by rw [hX, hb]; exact Blk.new _ _ _)
  have HP1 := hid ((hp.low (HM0.out.size)).later (Later.mod hms))
  have HM1 := hid (HM0.out.tr (hm.tr hms))
  have HX := hid hX
  have Hb := hid hb
  clear hm hms hp hX hb
  go_wp2_with fail
  rw [← HX.out, ← Hb.out]
  clear HX Hb
  refine (key_pl _ 1 gets_1 X1).mono ?_
  rintro e w1 ⟨hm, u, rfl, hp⟩
  obtain ⟨k2, c2, l2, d2, rfl⟩ := hp.form
  obtain ⟨X2, hX⟩ : ∃ X, X = w1.alloc (.cells #[.func (.func k2) #[] c2, .func (.func l2) #[] d2] 99) := ⟨_, rfl⟩
  obtain ⟨b2, hb⟩ : ∃ b, b = w1.heap.size := ⟨_, rfl⟩
  have hms : Mod [] w1 X2 := by rw [hX]; exact (Mod.refl [] w1).alloc _
  have HB2 := hid (show Blk X2 b2 #[.func (.func k2) #[] c2, .func (.func l2) #[] d2] 99 by rw [hX, hb]; exact Blk.new _ _ _)
  have HP2 := hid ((hp.low (HM1.out.size)).later (Later.mod hms))
  have HM2 := hid (HM1.out.tr (hm.tr hms))
  have HB1 := hid ((hm.tr hms).blk HB1.out (by simp))
  have HP1 := hid (HP1.out.later (Later.mod (hm.tr hms)))
  have HX := hid hX
  have Hb := hid hb
  clear hm hms hp hX hb
  go_wp2_with fail
  rw [← HX.out, ← Hb.out]
  clear HX Hb
  refine (key_pl _ 0 gets_2 X2).mono ?_
  rintro e w1 ⟨hm, u, rfl, hp⟩
  obtain ⟨k3, c3, l3, d3, rfl⟩ := hp.form
  obtain ⟨X3, hX⟩ : ∃ X, X = w1.alloc (.cells #[.func (.func k3) #[] c3, .func (.func l3) #[] d3] 99) := ⟨_, rfl⟩
  obtain ⟨b3, hb⟩ : ∃ b, b = w1.heap.size := ⟨_, rfl⟩
  have hms : Mod [] w1 X3 := by rw [hX]; exact (Mod.refl [] w1).alloc _
  have HB3 := hid (show Blk X3 b3 #[.func (.func k3) #[] c3, .func (.func l3) #[] d3] 99 by rw [hX, hb]; exact Blk.new _ _ _)
  have HP3 := hid ((hp.low (HM2.out.size)).later (Later.mod hms))
  have HM3 := hid (HM2.out.tr (hm.tr hms))
  have HB1 := hid ((hm.tr hms).blk HB1.out (by simp))
  have HP1 := hid (HP1.out.later (Later.mod (hm.tr hms)))
  have HB2 := hid ((hm.tr hms).blk HB2.out (by simp))
  have HP2 := hid (HP2.out.later (Later.mod (hm.tr hms)))
  have HX := hid hX
  have Hb := hid hb
  clear hm hms hp hX hb
  go_wp2_with fail
  rw [← HX.out, ← Hb.out]
  clear HX Hb
  refine (hi_pl X3).mono ?_
  rintro e w1 ⟨hm, u, rfl, hp⟩
  obtain ⟨k4, c4, l4, d4, rfl⟩ := hp.form
  obtain ⟨X4, hX⟩ : ∃ X, X = w1.alloc (.cells #[.func (.func k4) #[] c4, .func (.func l4) #[] d4] 99) := ⟨_, rfl⟩
  obtain ⟨b4, hb⟩ : ∃ b, b = w1.heap.size := ⟨_, rfl⟩
  have hms : Mod [] w1 X4 := by rw [hX]; exact (Mod.refl [] w1).alloc _
  have HB4 := hid (show Blk X4 b4 #[.func (.func k4) #[] c4, .func (.func l4) #[] d4] 99 by rw [hX, hb]; exact Blk.new _ _ _)
  have HP4 := hid ((hp.low (HM3.out.size)).later (Later.mod hms))
  have HM4 := hid (HM3.out.tr (hm.tr hms))
  have HB1 := hid ((hm.tr hms).blk HB1.out (by simp))
  have HP1 := hid (HP1.out.later (Later.mod (hm.tr hms)))
  have HB2 := hid ((hm.tr hms).blk HB2.out (by simp))
  have HP2 := hid (HP2.out.later (Later.mod (hm.tr hms)))
  have HB3 := hid ((hm.tr hms).blk HB3.out (by simp))
  have HP3 := hid (HP3.out.later (Later.mod (hm.tr hms)))
  have HX := hid hX
  have Hb := hid hb
  clear hm hms hp hX hb
  go_wp2_with fail
  rw [← HX.out, ← Hb.out]
  clear HX Hb
  refine (val_pl X4).mono ?_
  rintro e w1 ⟨hm, u, rfl, hp⟩
  obtain ⟨k5, c5, l5, d5, rfl⟩ := hp.form
  obtain ⟨X5, hX⟩ : ∃ X, X = w1.alloc (.cells #[.func (.func k5) #[] c5, .func (.func l5) #[] d5] 99) := ⟨_, rfl⟩
  obtain ⟨b5, hb⟩ : ∃ b, b = w1.heap.size := ⟨_, rfl⟩
  have hms : Mod [] w1 X5 := by rw [hX]; exact (Mod.refl [] w1).alloc _
  have HB5 := hid (show Blk X5 b5 #[.func (.func k5) #[] c5, .func (.func l5) #[] d5] 99 by rw [hX, hb]; exact Blk.new _ _ _)
  have HP5 := hid ((hp.low (HM4.out.size)).later (Later.mod hms))
  have HM5 := hid (HM4.out.tr (hm.tr hms))
  have HB1 := hid ((hm.tr hms).blk HB1.out (by simp))
  have HP1 := hid (HP1.out.later (Later.mod (hm.tr hms)))
  have HB2 := hid ((hm.tr hms).blk HB2.out (by simp))
  have HP2 := hid (HP2.out.later (Later.mod (hm.tr hms)))
  have HB3 := hid ((hm.tr hms).blk HB3.out (by simp))
  have HP3 := hid (HP3.out.later (Later.mod (hm.tr hms)))
  have HB4 := hid ((hm.tr hms).blk HB4.out (by simp))
  have HP4 := hid (HP4.out.later (Later.mod (hm.tr hms)))
  have HX := hid hX
  have Hb := hid hb
  clear hm hms hp hX hb
  go_wp2_with fail
  rw [← HX.out, ← Hb.out]
  clear HX Hb
  refine (nB_pl 1 999 (by decide) X5).mono ?_
  rintro e w1 ⟨hm, u, rfl, hp⟩
  obtain ⟨k6, c6, l6, d6, rfl⟩ := hp.form
  have HM6 := hid (HM5.out.tr hm)
  have HP6 := hid (hp.low (HM5.out.size))
  have HB1 := hid (hm.blk HB1.out (by simp))
  have HP1 := hid (HP1.out.later (Later.mod hm))
  have HB2 := hid (hm.blk HB2.out (by simp))
  have HP2 := hid (HP2.out.later (Later.mod hm))
  have HB3 := hid (hm.blk HB3.out (by simp))
  have HP3 := hid (HP3.out.later (Later.mod hm))
  have HB4 := hid (hm.blk HB4.out (by simp))
  have HP4 := hid (HP4.out.later (Later.mod hm))
  have HB5 := hid (hm.blk HB5.out (by simp))
  have HP5 := hid (HP5.out.later (Later.mod hm))
  clear hm hp
  go_wp2_with fail
  refine (nB_pl 0 999 (by decide) w1).mono ?_
  rintro e w2 ⟨hm, u, rfl, hp⟩
  obtain ⟨k7, c7, l7, d7, rfl⟩ := hp.form
  obtain ⟨X6, hX6⟩ : ∃ X, X = w2.alloc (.cells #[.func (.func k6) #[] c6, .func (.func l6) #[] d6] 99) := ⟨_, rfl⟩
  obtain ⟨X7, hX7⟩ : ∃ X, X = X6.alloc (.cells #[.func (.func k7) #[] c7, .func (.func l7) #[] d7] 99) := ⟨_, rfl⟩
  obtain ⟨b6, hb6⟩ : ∃ b, b = w2.heap.size := ⟨_, rfl⟩
  have hm6 : Mod [] w2 X6 := by rw [hX6]; exact (Mod.refl [] w2).alloc _
  have hm7 : Mod [] X6 X7 := by rw [hX7]; exact (Mod.refl [] X6).alloc _
  have hms := hm6.tr hm7
  have hz : X6.heap.size = b6 + 1 := by rw [hX6, hb6]; simp
  have HB6 := hid (show Blk X7 b6 #[.func (.func k6) #[] c6, .func (.func l6) #[] d6] 99 from hm7.blk (by rw [hX6, hb6]; exact Blk.new _ _ _) (by simp))
  have HB7 := hid (show Blk X7 (b6 + 1) #[.func (.func k7) #[] c7, .func (.func l7) #[] d7] 99 by rw [← hz, hX7]; exact Blk.new _ _ _)
  have HP6 := hid ((HP6.out.later (Later.mod hm)).later (Later.mod hms))
  have HP7 := hid ((hp.low HM6.out.size).later (Later.mod hms))
  have HM7 := hid (HM6.out.tr (hm.tr hms))
  have HB1 := hid ((hm.tr hms).blk HB1.out (by simp))
  have HP1 := hid (HP1.out.later (Later.mod (hm.tr hms)))
  have HB2 := hid ((hm.tr hms).blk HB2.out (by simp))
  have HP2 := hid (HP2.out.later (Later.mod (hm.tr hms)))
  have HB3 := hid ((hm.tr hms).blk HB3.out (by simp))
  have HP3 := hid (HP3.out.later (Later.mod (hm.tr hms)))
  have HB4 := hid ((hm.tr hms).blk HB4.out (by simp))
  have HP4 := hid (HP4.out.later (Later.mod (hm.tr hms)))
  have HB5 := hid ((hm.tr hms).blk HB5.out (by simp))
  have HP5 := hid (HP5.out.later (Later.mod (hm.tr hms)))
  have HX6 := hid hX6
  have HX7 := hid hX7
  have Hb6 := hid hb6
  have HN := hid HM7.out.size
  clear hm hm6 hm7 hms hp hX6 hX7 hb6 hz
  go_wp2_with fail
  rw [← HX6.out, ← Hb6.out, ← HX7.out]
  clear HX6 HX7 Hb6
  rename_i K hK
  refine wp_region_steps (by rfl) (by kernel_rfl) (SS X7) (SV X0.heap.size tblS) ?h0 ?steps ?fin
  case h0 => exact (Mod.refl [] X7).drew

  case steps =>
    refine ⟨?s0, ?s1, ?s2, ?s3, ?s4, ?s5, ?s6, ?s7, ?s8, ?s9, ?s10, ?s11, ?s12, ?s13, ?s14, ?s15, ?s16, ?s17, ?s18, ?s19, ?s20, ?s21, ?s22, ?s23, ?s24, ?s25, ?s26, ?s27, ?s28, ?s29, ?s30, ?s31, ?s32, ?s33, ?s34, ?s35, ?s36, ?s37, ?s38, ?s39, ?s40, ?s41, ?s42, ?s43, ?s44, ?s45, ?s46, ?s47, ?s48, ?s49, ?s50, ?s51, ?s52, ?s53, ?s54, ?s55, ?s56, ?s57, ?s58, trivial⟩
    case s0 => exact step_load (t := 1) rfl rfl rfl (by rfl) HB1.out HP1.out rfl
    case s1 => exact step_pls1 HN.out rfl rfl (j := 0) rfl rfl (by simp) rfl rfl
    case s2 => exact step_row rfl rfl (j := 1) rfl rfl (by simp) rfl rfl rfl rfl rfl rfl
    case s3 => exact step_load (t := 1) rfl rfl rfl (by rfl) HB1.out HP1.out rfl
    case s4 => exact step_pls1 HN.out rfl rfl (j := 3) rfl rfl (by simp) rfl rfl
    case s5 => exact step_row rfl rfl (j := 4) rfl rfl (by simp) rfl rfl rfl rfl rfl rfl
    case s6 => exact step_load (t := 1) rfl rfl rfl (by rfl) HB1.out HP1.out rfl
    case s7 => exact step_pls1 HN.out rfl rfl (j := 6) rfl rfl (by simp) rfl rfl
    case s8 => exact step_row rfl rfl (j := 7) rfl rfl (by simp) rfl rfl rfl rfl rfl rfl
    case s9 => exact step_call 75 #[] HN.out (fun _ _ => by simp [go_sem]) rfl who_pl rfl
    case s10 => exact step_pls1 HN.out rfl rfl (j := 9) rfl rfl (by simp) rfl rfl
    case s11 => exact step_row rfl rfl (j := 10) rfl rfl (by simp) rfl rfl rfl rfl rfl rfl
    case s12 => exact step_call 75 #[] HN.out (fun _ _ => by simp [go_sem]) rfl who_pl rfl
    case s13 => exact step_pls1 HN.out rfl rfl (j := 12) rfl rfl (by simp) rfl rfl
    case s14 => exact step_row rfl rfl (j := 13) rfl rfl (by simp) rfl rfl rfl rfl rfl rfl
    case s15 => exact step_row0 rfl rfl rfl rfl rfl rfl rfl
    case s16 => exact step_row0 rfl rfl rfl rfl rfl rfl rfl
    case s17 => exact step_call 75 #[] HN.out (fun _ _ => by simp [go_sem]) rfl who_pl rfl
    case s18 => exact step_load (t := 6) rfl rfl rfl (by rfl) HB6.out HP6.out rfl
    case s19 => exact step_pls2 HN.out rfl rfl (j := 17) rfl rfl (by simp) rfl (j' := 18) rfl rfl (by simp) rfl rfl
    case s20 => exact step_row rfl rfl (j := 19) rfl rfl (by simp) rfl rfl rfl rfl rfl rfl
    case s21 => exact step_call 75 #[] HN.out (fun _ _ => by simp [go_sem]) rfl who_pl rfl
    case s22 => exact step_load (t := 7) rfl rfl rfl (by rfl) HB7.out HP7.out rfl
    case s23 => exact step_pls2 HN.out rfl rfl (j := 21) rfl rfl (by simp) rfl (j' := 22) rfl rfl (by simp) rfl rfl
    case s24 => exact step_row rfl rfl (j := 23) rfl rfl (by simp) rfl rfl rfl rfl rfl rfl
    case s25 => exact step_call 75 #[] HN.out (fun _ _ => by simp [go_sem]) rfl who_pl rfl
    case s26 => exact step_load (t := 7) rfl rfl rfl (by rfl) HB7.out HP7.out rfl
    case s27 => exact step_pls2 HN.out rfl rfl (j := 25) rfl rfl (by simp) rfl (j' := 26) rfl rfl (by simp) rfl rfl
    case s28 => exact step_row rfl rfl (j := 27) rfl rfl (by simp) rfl rfl rfl rfl rfl rfl
    case s29 => exact step_row0 rfl rfl rfl rfl rfl rfl rfl
    case s30 => exact step_call 76 #[] HN.out (fun _ _ => by simp [go_sem]) rfl stamp_pl rfl
    case s31 => exact step_load (t := 2) rfl rfl rfl (by rfl) HB2.out HP2.out rfl
    case s32 => exact step_pls2 HN.out rfl rfl (j := 30) rfl rfl (by simp) rfl (j' := 31) rfl rfl (by simp) rfl rfl
    case s33 => exact step_row rfl rfl (j := 32) rfl rfl (by simp) rfl rfl rfl rfl rfl rfl
    case s34 => exact step_call 76 #[] HN.out (fun _ _ => by simp [go_sem]) rfl stamp_pl rfl
    case s35 => exact step_load (t := 2) rfl rfl rfl (by rfl) HB2.out HP2.out rfl
    case s36 => exact step_pls2 HN.out rfl rfl (j := 34) rfl rfl (by simp) rfl (j' := 35) rfl rfl (by simp) rfl rfl
    case s37 => exact step_row rfl rfl (j := 36) rfl rfl (by simp) rfl rfl rfl rfl rfl rfl
    case s38 => exact step_call 76 #[] HN.out (fun _ _ => by simp [go_sem]) rfl stamp_pl rfl
    case s39 => exact step_load (t := 3) rfl rfl rfl (by rfl) HB3.out HP3.out rfl
    case s40 => exact step_load (t := 4) rfl rfl rfl (by rfl) HB4.out HP4.out rfl
    case s41 => exact step_pls3 HN.out rfl rfl (j := 38) rfl rfl (by simp) rfl (j' := 39) rfl rfl (by simp) rfl (j'' := 40) rfl rfl (by simp) rfl rfl
    case s42 => exact step_row rfl rfl (j := 41) rfl rfl (by simp) rfl rfl rfl rfl rfl rfl
    case s43 => exact step_call 76 #[] HN.out (fun _ _ => by simp [go_sem]) rfl stamp_pl rfl
    case s44 => exact step_load (t := 2) rfl rfl rfl (by rfl) HB2.out HP2.out rfl
    case s45 => exact step_load (t := 5) rfl rfl rfl (by rfl) HB5.out HP5.out rfl
    case s46 => exact step_pls3 HN.out rfl rfl (j := 43) rfl rfl (by simp) rfl (j' := 44) rfl rfl (by simp) rfl (j'' := 45) rfl rfl (by simp) rfl rfl
    case s47 => exact step_row rfl rfl (j := 46) rfl rfl (by simp) rfl rfl rfl rfl rfl rfl
    case s48 => exact step_call 76 #[] HN.out (fun _ _ => by simp [go_sem]) rfl stamp_pl rfl
    case s49 => exact step_pls1 HN.out rfl rfl (j := 48) rfl rfl (by simp) rfl rfl
    case s50 => exact step_row rfl rfl (j := 49) rfl rfl (by simp) rfl rfl rfl rfl rfl rfl
    case s51 => exact step_call 76 #[] HN.out (fun _ _ => by simp [go_sem]) rfl stamp_pl rfl
    case s52 => exact step_pls1 HN.out rfl rfl (j := 51) rfl rfl (by simp) rfl rfl
    case s53 => exact step_row rfl rfl (j := 52) rfl rfl (by simp) rfl rfl rfl rfl rfl rfl
    case s54 => exact step_call 67 #[.func (.func 68) #[] #[], .int .u64 1, .int .u64 9999] HN.out (fun _ _ => by simp [go_sem]) rfl (nA_pl 1 9999 (by decide)) rfl
    case s55 => exact step_pls1 HN.out rfl rfl (j := 54) rfl rfl (by simp) rfl rfl
    case s56 => exact step_row rfl rfl (j := 55) rfl rfl (by simp) rfl rfl rfl rfl rfl rfl
    case s57 =>
      refine step_all HN.out rfl rfl ?_ rfl
      intro listed a W hR hall
      exact ⟨hR.val 2 rfl rfl (hall ⟨2, .data⟩ (by simp) rfl), hR.val 5 rfl rfl (hall ⟨5, .data⟩ (by simp) rfl), hR.val 8 rfl rfl (hall ⟨8, .data⟩ (by simp) rfl), hR.val 11 rfl rfl (hall ⟨11, .data⟩ (by simp) rfl), hR.val 14 rfl rfl (hall ⟨14, .data⟩ (by simp) rfl), hR.val 15 rfl rfl (hall ⟨15, .data⟩ (by simp) rfl), hR.val 16 rfl rfl (hall ⟨16, .data⟩ (by simp) rfl), hR.val 20 rfl rfl (hall ⟨20, .data⟩ (by simp) rfl), hR.val 24 rfl rfl (hall ⟨24, .data⟩ (by simp) rfl), hR.val 28 rfl rfl (hall ⟨28, .data⟩ (by simp) rfl), hR.val 29 rfl rfl (hall ⟨29, .data⟩ (by simp) rfl), hR.val 33 rfl rfl (hall ⟨33, .data⟩ (by simp) rfl), hR.val 37 rfl rfl (hall ⟨37, .data⟩ (by simp) rfl), hR.val 42 rfl rfl (hall ⟨42, .data⟩ (by simp) rfl), hR.val 47 rfl rfl (hall ⟨47, .data⟩ (by simp) rfl), hR.val 50 rfl rfl (hall ⟨50, .data⟩ (by simp) rfl), hR.val 53 rfl rfl (hall ⟨53, .data⟩ (by simp) rfl), hR.val 56 rfl rfl (hall ⟨56, .data⟩ (by simp) rfl)⟩
    case s58 => exact step_move rfl rfl (j := 57) rfl rfl (by simp) rfl rfl
  case fin =>
    intro listed a W hR hl
    have h : Sp.all.holds X0.heap.size (a.tmps[0]?.getD undef) W := hR.val 58 rfl rfl (hl 58 (by decide))
    have hd : a.defers = [] := hR.defers
    have hm : Mod [] X7 W := hR.world
    refine hK _ _ (wp_ret ?_)
    show bodyPost Tryz.prog Tryz.f40 (fun e w' => Mod [] X0 w' ∧ ∃ v, e = .returned v ∧ RwsVal X0.heap.size v w') Exit.ret a W
    exact bodyPost_ret (v := a.tmps[0]?.getD undef) (by simp [results, Tryz.results40, go_sem]) hd ⟨HM7.out.tr hm, _, rfl, h⟩
end
end Go.Proofs.YtibhkldnimfnkaaGreatDoor
