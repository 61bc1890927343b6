/- The law VersMarks, walked. -/
import Derived.Test.YtmdomihpohekiaaVH
namespace Go.Proofs.Ytmdomihpohekiaa
set_option linter.unusedVariables false
set_option linter.unusedSimpArgs false
set_option linter.unusedSectionVars false
open Go.RowKit

/-- The cells of a list's i-th, by name. -/
def Five (W : World) (b m : Nat) (x : Vr) : Prop :=
  W.cell? ⟨b, m, Option.none⟩ = some (.int .u64 x.ts) ∧ W.cell? ⟨b, m + 1, Option.none⟩ = some (.int .u64 x.ln) ∧ W.cell? ⟨b, m + 2, Option.none⟩ = some (.bool x.dl) ∧ W.cell? ⟨b, m + 3, Option.none⟩ = some (.string x.vl) ∧ W.cell? ⟨b, m + 4, Option.none⟩ = some (.bool x.ak)
theorem Lv.five {w : World} {b off n cap : Nat} {l : List Vr} (h : Lv w (.slice (some ⟨b, off, Option.none⟩) n cap) l) {i : Nat} {x : Vr} (hx : l[i]? = some x) : Five w b (off + i * 5) x := by
  obtain ⟨b', off', e, h⟩ := h.at hx
  simp only [Option.some.injEq, Addr.mk.injEq, and_true] at e
  obtain ⟨rfl, rfl⟩ := e
  exact h
theorem Lv.adr {w : World} {a : Option Addr} {n cap : Nat} {l : List Vr} (h : Lv w (.slice a n cap) l) (hp : 0 < n) : ∃ b off, a = some ⟨b, off, Option.none⟩ := by
  obtain ⟨a', cap', hv, hs, _⟩ := h
  simp only [Value.slice.injEq] at hv
  obtain ⟨rfl, rfl, rfl⟩ := hv
  rcases hs with rfl | ⟨b, off, rfl, _⟩
  · simp at hp
  · exact ⟨b, off, rfl⟩

theorem Top.ne {w0 w : World} {U : Res} {b b' : Nat} {cs cs' : Array Value} {T T' : TypeId} (h : Top w0 (star (boxR b cs T) (star (boxR b' cs' T') U)) w) : b ≠ b' := by
  obtain ⟨L, ⟨L1, L2, ⟨_, rfl⟩, ⟨L3, L4, ⟨_, rfl⟩, _, rfl, _⟩, rfl, hd⟩, _⟩ := h
  intro e
  exact hd b (by simp) (by simp [e])

set_option maxRecDepth 100000 in
set_option maxHeartbeats 4000000 in
theorem marks_walk (lv : Value) (xs : List Vr) (wh lsn : Nat) (w : World) (h : Lv w lv xs) (hw : wh < 256) (hl : lsn < 65536) :
    Calls Try.prog 6 #[lv, .int .u8 wh, .int .u16 lsn] w fun e w' => e = .returned (.bool true) ∧ Mod [] w w' := by
  have H := hid h
  obtain ⟨a, cap, rfl, _, hlen⟩ := h
  go_enter Try.func6, Try.ntmps6
  go_wp2_with fail
  refine ((Top.start w).read (works_c _)).mono ?_
  rintro e w1 ⟨rfl, h1⟩
  have T1 := hid h1
  clear h1
  go_wp2_with fail
  refine (T1.out.own (rising_c _ _ _ (H.out.mod T1.out.m))).mono ?_
  rintro e w2 ⟨a2, c2, rfl, h2⟩
  have hmay := risB_may xs
  have hln := risB_len xs
  generalize risB xs = l at *
  have T2 := hid h2
  have hl40 : l.length ≤ 40 := by omega
  have Hmay := hid hmay
  clear h2 T1 hmay hln hlen H
  rcases Nat.eq_zero_or_pos l.length with h0 | hpos
  · have h0' : ((l.length : Int) == 0) = true := beq_iff_eq.2 (by omega)
    have h0'' := hid h0
    clear h0
    go_wp2
    go_ret
    exact ⟨rfl, T2.out.m⟩
  · have h0' : ((l.length : Int) == 0) = false := beq_eq_false_iff_ne.2 (by omega)
    have hmk : Int.tmod (wh : Int) (l.length : Int) = ((wh % l.length : Nat) : Int) := rfl
    have hkl := Nat.mod_lt wh hpos
    have hne : ¬ (l.length : Int) = 0 := by omega
    generalize wh % l.length = k at *
    obtain ⟨s, hs⟩ : ∃ s, l[k]? = some s := ⟨_, List.getElem?_eq_getElem hkl⟩
    obtain ⟨b2, o2, rfl⟩ := T2.out.lv.adr hpos
    obtain ⟨s0, s1, s2, s3, s4⟩ := T2.out.lv.five hs
    have hn : ((1000 + lsn : Nat) : Int) = 1000 + (lsn : Int) := by omega
    obtain ⟨n, hn2⟩ : ∃ n, 1000 + lsn = n := ⟨_, rfl⟩
    rw [hn2] at hn
    have Hn := hid hn
    have hnp : 1000 ≤ n := by omega
    have hnq : n < 70000 := by omega
    have Hs := hid hs
    clear hs hn hn2
    go_wp2_with fail
    rw [← Hn.out]
    refine (T2.out.own (logged_c _ _ l s.ts n T2.out.lv (by omega))).mono ?_
    rintro e w3 ⟨a3, c3, rfl, h3⟩
    rw [turned_may _ Hmay.out, List.length_map] at h3 ⊢
    have hAm := hid (may_map (logF s.ts n) (logF_ts _ _) Hmay.out)
    obtain ⟨A, hA⟩ : ∃ A, l.map (logF s.ts n) = A := ⟨_, rfl⟩
    have hAl : A.length = l.length := by rw [← hA, List.length_map]
    rw [hA] at h3 hAm
    have HA := hid hA
    have HAl := hid hAl
    have T3 := hid h3
    obtain ⟨b3, o3, rfl⟩ := T3.out.lv.adr (by omega)
    clear h3 hA T2 s0 s1 s2 s3 s4 hAl
    go_wp2
    go_loopg [10] 41 (fun g i wr => ∃ j : Nat, i = .int .i64 j ∧ j + g = 41 ∧ j ≤ l.length ∧ Hid (Top w (star (lst (.slice (some ⟨b3, o3, none⟩) l.length c3) A) (star (lst (.slice (some ⟨b2, o2, none⟩) l.length c2) l) emp)) wr))
    · exact ⟨0, rfl, by omega, by omega, T3⟩
    · obtain ⟨j, rfl, hj, hjl, hT⟩ := hrel
      clear T3
      by_cases hlt : j < l.length
      · obtain ⟨x, hx⟩ : ∃ x, l[j]? = some x := ⟨_, List.getElem?_eq_getElem hlt⟩
        have hy : A[j]? = some (if j = k then { x with ln := n } else x) := by
          rw [← HA.out, List.getElem?_map, hx, Option.map_some, log_at Hmay.out Hs.out hx n]
        have hji : (j : Int) < (l.length : Int) := by omega
        by_cases hjk : j = k
        · have _t := True.intro
          have hjk' : ((j : Int) == (k : Int)) = true := beq_iff_eq.2 (by omega)
          rw [if_pos hjk] at hy
          obtain ⟨x0, x1, x2, x3, x4⟩ := hT.out.drop.lv.five hx
          have hW := hid (hT.out.alloc (.cells #[.int .u64 x.ts, .int .u64 n, .bool x.dl, .string x.vl, .bool x.ak] 25))
          obtain ⟨y0, y1, y2, y3, y4⟩ := hW.out.lv.five hy
          have heq := eq_vr { x with ln := n } { x with ln := n }
          rw [(eqV_iff _ _).2 rfl] at heq
          try dsimp only at y0 y1 y2 y3 y4 heq
          clear hjk hx hy
          go_upto_region 17 with (fail)
          go_quiet (fail)
          rename_i nq _
          have hN := hid (hW.out.mod ((Mod.refl [] _).drewN nq))
          clear hW y0 y1 y2 y3 y4 x0 x1 x2 x3 x4 heq
          go_wp2
          go_roundg (gk - 1)
          case measure => omega
          case rel => exact ⟨j + 1, by go_num, by omega, by omega, hN⟩
        · have _t := True.intro
          have hjk' : ((j : Int) == (k : Int)) = false := beq_eq_false_iff_ne.2 (by omega)
          rw [if_neg hjk] at hy
          obtain ⟨x0, x1, x2, x3, x4⟩ := hT.out.drop.lv.five hx
          have hW := hid (hT.out.alloc (.cells #[.int .u64 x.ts, .int .u64 x.ln, .bool x.dl, .string x.vl, .bool x.ak] 25))
          obtain ⟨y0, y1, y2, y3, y4⟩ := hW.out.lv.five hy
          have heq := eq_vr { x with ln := x.ln } { x with ln := x.ln }
          rw [(eqV_iff _ _).2 rfl] at heq
          try dsimp only at y0 y1 y2 y3 y4 heq
          clear hjk hx hy
          go_upto_region 17 with (fail)
          go_quiet (fail)
          rename_i nq _
          have hN := hid (hW.out.mod ((Mod.refl [] _).drewN nq))
          clear hW y0 y1 y2 y3 y4 x0 x1 x2 x3 x4 heq
          go_wp2
          go_roundg (gk - 1)
          case measure => omega
          case rel => exact ⟨j + 1, by go_num, by omega, by omega, hN⟩
      · obtain rfl : j = l.length := by omega
        clear hlt
        go_wp2_with fail
        refine (hT.out.own (acked_c _ _ A n true hT.out.lv (by rw [HAl.out]; omega))).mono ?_
        rintro e w4 ⟨a4, c4, rfl, h4⟩
        rw [turned_may _ hAm.out, List.length_map, HAl.out] at h4 ⊢
        have hBm := hid (may_map (ackF n true) (ackF_ts _ _) hAm.out)
        obtain ⟨B, hB⟩ : ∃ B, A.map (ackF n true) = B := ⟨_, rfl⟩
        have hBl : B.length = A.length := by rw [← hB, List.length_map]
        rw [hB] at h4 hBm
        have HB := hid hB
        have HBl := hid hBl
        have T4 := hid h4
        obtain ⟨b4, o4, rfl⟩ := T4.out.lv.adr (by omega)
        clear h4 hB hT hBl
        go_wp2_with fail
        refine (T4.out.own (acked_c _ _ B n false T4.out.lv (by rw [HBl.out, HAl.out]; omega))).mono ?_
        rintro e w5 ⟨a5, c5, rfl, h5⟩
        rw [turned_may _ hBm.out, List.length_map, HBl.out, HAl.out] at h5 ⊢
        obtain ⟨C, hC⟩ : ∃ C, B.map (ackF n false) = C := ⟨_, rfl⟩
        rw [hC] at h5
        have HC := hid hC
        have T5 := hid h5
        obtain ⟨b5, o5, rfl⟩ := T5.out.lv.adr (by omega)
        clear h5 hC T4
        go_wp2
        go_loopg [14] 41 (fun g i wr => ∃ j : Nat, i = .int .i64 j ∧ j + g = 41 ∧ j ≤ l.length ∧ Hid (Top w (star (lst (.slice (some ⟨b5, o5, none⟩) l.length c5) C) (star (lst (.slice (some ⟨b4, o4, none⟩) l.length c4) B) (star (lst (.slice (some ⟨b3, o3, none⟩) l.length c3) A) (star (lst (.slice (some ⟨b2, o2, none⟩) l.length c2) l) emp)))) wr))
        · exact ⟨0, rfl, by omega, by omega, T5⟩
        · obtain ⟨j, rfl, hj, hjl, hT⟩ := hrel
          clear T5
          by_cases hlt : j < l.length
          · obtain ⟨x, hx⟩ : ∃ x, A[j]? = some x := ⟨_, List.getElem?_eq_getElem (by rw [HAl.out]; exact hlt)⟩
            have hy : B[j]? = some (if x.ln = n then { x with ak := true } else x) := by
              rw [← HB.out, List.getElem?_map, hx, Option.map_some, ack_yes n (by omega)]
            have hz : C[j]? = some (if x.ln = n then { x with ak := false } else x) := by
              rw [← HC.out, ← HB.out, List.map_map, List.getElem?_map, hx, Option.map_some]
              show some (ackF n false (ackF n true x)) = _
              rw [ack_no n (by omega)]
            have hji : (j : Int) < (l.length : Int) := by omega
            have hS : Hid (∀ X, Mod [] wr X → Five X b3 (o3 + j * 5) x) := fun X hX => ((hT.out.mod hX).drop.drop.lv.five hx)
            have hS0 := hS.out _ (Mod.refl [] wr).drew
            have hT0 := hid hT.out.drew
            go_upto_region 24 with (fail)
            go_cut [15, 16] from 78 to 85 (fun p q wx => ∃ r1 r2 : Nat, p = .pointer (some ⟨r1, 0, none⟩) ∧ q = .pointer (some ⟨r2, 0, none⟩) ∧ Hid (Top w (star (boxR r1 #[.int .u64 x.ts, .int .u64 x.ln, .bool x.dl, .string x.vl, .bool x.ak] 25) (star (boxR r2 #[.int .u64 x.ts, .int .u64 x.ln, .bool x.dl, .string x.vl, .bool x.ak] 25) (star (lst (.slice (some ⟨b5, o5, none⟩) l.length c5) C) (star (lst (.slice (some ⟨b4, o4, none⟩) l.length c4) B) (star (lst (.slice (some ⟨b3, o3, none⟩) l.length c3) A) (star (lst (.slice (some ⟨b2, o2, none⟩) l.length c2) l) emp)))))) wx))
            case first =>
              go_region_held3 (fun X => Mod [] wr X ∧ X.cell? ⟨b3, o3 + j * 5, none⟩ = some (.int .u64 x.ts) ∧ X.cell? ⟨b3, o3 + j * 5 + 1, none⟩ = some (.int .u64 x.ln) ∧ X.cell? ⟨b3, o3 + j * 5 + 2, none⟩ = some (.bool x.dl) ∧ X.cell? ⟨b3, o3 + j * 5 + 3, none⟩ = some (.string x.vl) ∧ X.cell? ⟨b3, o3 + j * 5 + 4, none⟩ = some (.bool x.ak))
                (first
                  | exact ⟨(Mod.refl [] wr).drew, hS0⟩
                  | assumption
                  | (refine (fun h => ⟨h, hS.out _ h⟩) ?_; (repeat (first | exact Mod.refl [] wr | refine Mod.drew ?_ | refine Mod.alloc ?_ _)); done)
                  | fail)
                (fail)
              all_goals
                have hBB := (hT.out.box #[.int .u64 x.ts, .int .u64 x.ln, .bool x.dl, .string x.vl, .bool x.ak] 25).box #[.int .u64 x.ts, .int .u64 x.ln, .bool x.dl, .string x.vl, .bool x.ak] 25
                rw [World.size_alloc] at hBB
                have HBB := hid hBB.drew
                have HBS := hid hBB.swap.drew
                clear hBB
                go_wp2
                go_meet
                first
                  | exact ⟨_, _, rfl, rfl, HBS⟩
                  | exact ⟨_, _, rfl, rfl, HBB⟩
            case rest =>
              obtain ⟨r1, r2, rfl, rfl, T6⟩ := hcut
              clear hS hS0 hT0
              obtain ⟨x0, x1, x2, x3, x4⟩ := T6.out.drop.drop.drop.drop.lv.five hx
              have hr12 := T6.out.ne
              have hr21 := Ne.symm hr12
              have f1 := T6.out.get.free 4
              have f2 := T6.out.drop.get.free 4
              have c14 : wc.cell? ⟨r1, 4, none⟩ = some (.bool x.ak) := T6.out.get.cell 4
              have c24 : wc.cell? ⟨r2, 4, none⟩ = some (.bool x.ak) := T6.out.drop.get.cell 4
              by_cases hxn : x.ln = n
              · have _t := True.intro
                have hq : ((x.ln : Int) == (n : Int)) = true := beq_iff_eq.2 (by omega)
                rw [if_pos hxn] at hy hz
                clear hxn
                go_upto_region 28 with (fail)
                have T7 := hid ((T6.out.set 4 (.bool true)).swap.set 4 (.bool false)).swap
                obtain ⟨y0, y1, y2, y3, y4⟩ := T7.out.drop.drop.drop.lv.five hy
                obtain ⟨z0, z1, z2, z3, z4⟩ := T7.out.drop.drop.lv.five hz
                obtain ⟨p0, p1, p2, p3, p4, _⟩ := Blk.five (a0 := .int .u64 x.ts) (a1 := .int .u64 x.ln) (a2 := .bool x.dl) (a3 := .string x.vl) (a4 := .bool true) T7.out.get
                obtain ⟨q0, q1, q2, q3, q4, _⟩ := Blk.five (a0 := .int .u64 x.ts) (a1 := .int .u64 x.ln) (a2 := .bool x.dl) (a3 := .string x.vl) (a4 := .bool false) T7.out.drop.get
                have heq := eq_vr { x with ak := true } { x with ak := true }
                rw [(eqV_iff _ _).2 rfl] at heq
                have heq2 := eq_vr { x with ak := false } { x with ak := false }
                rw [(eqV_iff _ _).2 rfl] at heq2
                try dsimp only at y0 y1 y2 y3 y4 z0 z1 z2 z3 z4 heq heq2
                clear hx hy hz x0 x1 x2 x3 x4
                go_quiet (fail)
                rename_i nq _
                have T8 := hid (T7.out.drop.drop.mod ((Mod.refl [] _).drewN nq))
                clear y0 y1 y2 y3 y4 z0 z1 z2 z3 z4 p0 p1 p2 p3 p4 q0 q1 q2 q3 q4 heq heq2 T7 T6
                go_wp2
                go_roundg (gk - 1)
                case measure => omega
                case rel => exact ⟨j + 1, by go_num, by omega, by omega, T8⟩
              · have _t := True.intro
                have hq : ((x.ln : Int) == (n : Int)) = false := beq_eq_false_iff_ne.2 (by omega)
                rw [if_neg hxn] at hy hz
                clear hxn
                go_upto_region 28 with (fail)
                have T7 := hid T6.out
                obtain ⟨y0, y1, y2, y3, y4⟩ := T7.out.drop.drop.drop.lv.five hy
                obtain ⟨z0, z1, z2, z3, z4⟩ := T7.out.drop.drop.lv.five hz
                obtain ⟨p0, p1, p2, p3, p4, _⟩ := Blk.five (a0 := .int .u64 x.ts) (a1 := .int .u64 x.ln) (a2 := .bool x.dl) (a3 := .string x.vl) (a4 := .bool x.ak) T7.out.get
                obtain ⟨q0, q1, q2, q3, q4, _⟩ := Blk.five (a0 := .int .u64 x.ts) (a1 := .int .u64 x.ln) (a2 := .bool x.dl) (a3 := .string x.vl) (a4 := .bool x.ak) T7.out.drop.get
                have heq := eq_vr { x with ak := x.ak } { x with ak := x.ak }
                rw [(eqV_iff _ _).2 rfl] at heq
                have heq2 := eq_vr { x with ak := x.ak } { x with ak := x.ak }
                rw [(eqV_iff _ _).2 rfl] at heq2
                try dsimp only at y0 y1 y2 y3 y4 z0 z1 z2 z3 z4 heq heq2
                clear hx hy hz x0 x1 x2 x3 x4
                go_quiet (fail)
                rename_i nq _
                have T8 := hid (T7.out.drop.drop.mod ((Mod.refl [] _).drewN nq))
                clear y0 y1 y2 y3 y4 z0 z1 z2 z3 z4 p0 p1 p2 p3 p4 q0 q1 q2 q3 q4 heq heq2 T7 T6
                go_wp2
                go_roundg (gk - 1)
                case measure => omega
                case rel => exact ⟨j + 1, by go_num, by omega, by omega, T8⟩
          · have hback : turnedB (logF s.ts s.ln) A = l := by
              rw [turned_may _ hAm.out, ← HA.out, log_back Hmay.out Hs.out n]
            have Hback := hid hback
            have hkl2 : (k : Int) < (l.length : Int) := by omega
            have hTd := hid hT.out.drew
            obtain ⟨s0, s1, _⟩ := hTd.out.drop.drop.drop.lv.five Hs.out
            clear hback
            go_upto_region 30 with (fail)
            go_region_held3 (fun X => X.cell? ⟨b2, o2 + k * 5, none⟩ = some (.int .u64 s.ts) ∧ X.cell? ⟨b2, o2 + k * 5 + 1, none⟩ = some (.int .u64 s.ln))
              (first
                | exact ⟨s0, s1⟩
                | assumption
                | exact ⟨(h6.out.drop.drop.drop.drop.lv.five Hs.out).1, (h6.out.drop.drop.drop.drop.lv.five Hs.out).2.1⟩
                | exact ⟨(h7.out.drop.drop.drop.drop.lv.five Hs.out).1, (h7.out.drop.drop.drop.drop.lv.five Hs.out).2.1⟩
                | fail)
              (first
                | (go_at_call 19; refine (hTd.out.own (logged_c _ _ A s.ts s.ln hTd.out.drop.drop.lv (by rw [HAl.out]; omega))).mono ?_; rintro e w6 ⟨a6, c6, rfl, h6a⟩; rw [Hback.out] at h6a ⊢; have h6 := hid h6a; clear h6a)
                | (go_at_call 27; refine (h6.out.read (same_c _ _ _ l l h6.out.lv h6.out.drop.drop.drop.drop.lv)).mono ?_; rintro e w7 ⟨rfl, h7a⟩; rw [(sameB_iff _ _).2 rfl]; have h7 := hid h7a; clear h7a)
                | fail)
            go_wp2
            go_ret
            exact ⟨rfl, h7.out.m⟩

theorem u8_bnd {n : Int} (h : (Lit.int .u8 n).wf = true) : ∃ k : Nat, n = k ∧ k < 256 := by
  simp [Lit.wf, IntKind.min, IntKind.max, IntKind.signed, IntKind.bits] at h
  obtain ⟨k, rfl⟩ := Int.eq_ofNat_of_zero_le h.1
  exact ⟨k, rfl, by omega⟩

theorem marks_said {H : Type} {enc : TypeId × Value → H} {base : Nat} {spare : Nat → Bool} {held : Bool} {d : DataW H} {p : List MemPlace} (a : Option Addr) (len cap : Nat) (o t : Int) (w : World)
    (h : DataW.Trod enc Try.prog w base spare held 22 (.slice a len cap) d p) (ho : (Lit.int .u8 o).wf = true) (ht : (Lit.int .u16 t).wf = true) :
    Calls Try.prog 6 #[.slice a len cap, .int .u8 o, .int .u16 t] w fun e w' => e = .returned (.bool true) ∧ Mod [] w w' := by
  obtain ⟨xs, hl, _, _⟩ := open_vers h
  obtain ⟨k, rfl, hk⟩ := u8_bnd ho
  obtain ⟨m, rfl, hm⟩ := u16_bnd ht
  exact marks_walk _ xs k m w hl hk hm

end Go.Proofs.Ytmdomihpohekiaa
