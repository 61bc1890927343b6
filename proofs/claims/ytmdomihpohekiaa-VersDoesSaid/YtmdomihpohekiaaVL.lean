/- The law VersPuts, walked. -/
import Derived.Test.YtmdomihpohekiaaVI
import Derived.Test.YtmdomihpohekiaaVJ
namespace Go.Proofs.Ytmdomihpohekiaa
set_option linter.unusedVariables false
set_option linter.unusedSimpArgs false
set_option linter.unusedSectionVars false
open Go.RowKit

/-- The version as the law puts it. -/
def cutV (v : Vr) : Vr := ⟨v.ts % 500, v.ln, v.dl, if v.dl then ⟨#[]⟩ else v.vl.extract 0 (min 24 v.vl.size), v.ak⟩

set_option maxRecDepth 100000 in
set_option maxHeartbeats 4000000 in
theorem puts_walk (lv : Value) (xs : List Vr) (v : Vr) (t : Nat) (w : World) (h : Lv w lv xs) (hv : v.Ok) (ht : t < 65536) :
    Calls Try.prog 5 #[lv, vrV v, .int .u16 t] w fun e w' => e = .returned (.bool true) ∧ Mod [] w w' := by
  have H := hid h
  obtain ⟨a, cap, rfl, _, hlen⟩ := h
  obtain ⟨hv1, hv2, hv3⟩ := hv
  have hmt : Int.tmod (t : Int) 500 = ((t % 500 : Nat) : Int) := rfl
  have hmv : Int.tmod (v.ts : Int) 500 = ((v.ts % 500 : Nat) : Int) := rfl
  have T0 := hid ((Top.start w).box #[.int .u64 v.ts, .int .u64 v.ln, .bool v.dl, .string v.vl, .bool v.ak] 25)
  simp only [vrV]
  go_enter Try.func5, Try.ntmps5
  go_wp2_with fail
  refine (T0.out.read (works_c _)).mono ?_
  rintro e w1 ⟨rfl, h1⟩
  have T1 := hid h1
  clear h1 T0
  go_wp2_with fail
  refine (T1.out.own (rising_c _ _ _ (H.out.mod T1.out.m))).mono ?_
  rintro e w2 ⟨a2, c2, rfl, h2⟩
  have hmay := risB_may xs
  have hln := risB_len xs
  generalize risB xs = l at *
  have T2 := hid h2
  have hl40 : l.length ≤ 40 := by omega
  have Hmay := hid hmay
  obtain ⟨v0', v1, v2, v3, v4, f0, f1, f2, f3, f4⟩ := T2.out.drop.get.five
  have hbl := T2.out.drop.get.lt
  clear h2 T1 hmay hln hlen H
  go_upto_region 5 with (fail)
  have T3 : Hid (Top w (star (lst (.slice a2 l.length c2) l) (star (boxR w.heap.size #[.int .u64 ((v.ts % 500 : Nat) : Int), .int .u64 v.ln, .bool v.dl, .string v.vl, .bool v.ak] 25) emp)) (w2.setCell ⟨w.heap.size, 0, none⟩ (.int .u64 ((v.ts : Int) % 500)))) := (T2.out.swap.set 0 (.int .u64 ((v.ts : Int) % 500))).swap
  generalize w2.setCell ⟨w.heap.size, 0, none⟩ (.int .u64 ((v.ts : Int) % 500)) = w3 at *
  clear T2 v0' v1 v2 v3 v4 f0 f1 f2 f3 f4 hbl
  go_cut [17] from 25 to 32 (fun _ wx => Hid (Top w (star (lst (.slice a2 l.length c2) l) (star (boxR w.heap.size #[.int .u64 ((v.ts % 500 : Nat) : Int), .int .u64 v.ln, .bool v.dl, .string (v.vl.extract 0 (min 24 v.vl.size)), .bool v.ak] 25) emp)) wx))
  case first =>
    have v3 : w3.cell? ⟨w.heap.size, 3, none⟩ = some (.string v.vl) := T3.out.drop.get.cell 3
    have f3 := T3.out.drop.get.free 3
    rcases Nat.lt_or_ge 24 v.vl.size with hs | hs
    · have hs2 : (24 : Int) < (v.vl.size : Int) := by omega
      have hs3 : ¬ ((v.vl.size : Int) < 24) := by omega
      go_wp2
      go_meet
      have h := (T3.out.swap.set 3 (.string (v.vl.extract 0 24))).swap
      rw [show min 24 v.vl.size = 24 by omega]
      exact h
    · have hs2 : ¬ ((24 : Int) < (v.vl.size : Int)) := by omega
      go_wp2
      go_meet
      have h := (T3.out.swap.set 3 (.string v.vl)).swap
      rw [show min 24 v.vl.size = v.vl.size by omega, show v.vl.extract 0 v.vl.size = v.vl by apply ByteArray.ext; simp]
      exact h
  case rest =>
    have T4 := hid hcut.out
    clear hcut T3
    have v2 : wc.cell? ⟨w.heap.size, 2, none⟩ = some (.bool v.dl) := T4.out.drop.get.cell 2
    have f3 := T4.out.drop.get.free 3
    have v3 := T4.out.drop.get.cell 3
    simp at v3
    go_upto_if 34 with (fail)
    go_cut [1] from 34 to 35 (fun _ wx => Hid (Top w (star (lst (.slice a2 l.length c2) l) (star (boxR w.heap.size (vrC (cutV v)).toArray 25) emp)) wx))
    case first =>
      cases hd : v.dl
      · rw [hd] at v2
        have hcv : Hid (cutV v = ⟨v.ts % 500, v.ln, v.dl, v.vl.extract 0 (min 24 v.vl.size), v.ak⟩) := by show _ = _; simp [cutV, hd]
        clear hd
        go_wp2
        go_meet
        rw [hcv.out]
        exact T4
      · rw [hd] at v2
        have hcv : Hid (cutV v = ⟨v.ts % 500, v.ln, v.dl, ⟨#[]⟩, v.ak⟩) := by show _ = _; simp [cutV, hd]
        clear hd
        go_wp2
        go_meet
        rw [hcv.out]
        exact (T4.out.swap.set 3 (.string ⟨#[]⟩)).swap
    case rest =>
      have T5 := hid hcut.out
      have hcd : (cutV v).dl = true → (cutV v).vl.toList.isEmpty = true := by
        intro h
        have h2 : v.dl = true := h
        show (if v.dl then (⟨#[]⟩ : ByteArray) else v.vl.extract 0 (min 24 v.vl.size)).toList.isEmpty = true
        rw [if_pos h2]
        decide +kernel
      have hcs : (cutV v).vl.size ≤ 24 := by
        show (if v.dl then (⟨#[]⟩ : ByteArray) else v.vl.extract 0 (min 24 v.vl.size)).size ≤ 24
        split
        · decide
        · rw [ByteArray.size_extract]; omega
      have hce := hid (putE_ok Hmay.out hcd hcs)
      clear hcd
      generalize cutV v = u at *
      clear hcut T4 v2 v3 f3
      obtain ⟨u0, u1, u2, u3, u4, _⟩ := Blk.five (a0 := .int .u64 u.ts) (a1 := .int .u64 u.ln) (a2 := .bool u.dl) (a3 := .string u.vl) (a4 := .bool u.ak) T5.out.drop.get
      go_wp2_with fail
      refine (T5.out.put (put_c _ _ _ u T5.out.lv (by omega) (by omega))).mono ?_
      rintro e w4 ⟨a4, c4, rfl, h⟩
      have T6 := hid h
      clear h T5 u0 u1 u2 u3 u4
      go_wp2_with fail
      refine (T6.out.seen (newest_c _ _ l T6.out.drop.lv)).mono ?_
      rintro e w5 ⟨rfl, h⟩
      obtain ⟨N, hN⟩ : ∃ N, newB l = N := ⟨_, rfl⟩
      rw [show seenB (fun _ => true) l = N from hN]
      have T7 := hid (h.box (vrC (N.getD v0)).toArray 25)
      rw [hN] at hce
      have HN := hid hN
      clear h T6 hN
      have n0 : (w5.alloc (.cells #[.int .u64 (N.getD v0).ts, .int .u64 (N.getD v0).ln, .bool (N.getD v0).dl, .string (N.getD v0).vl, .bool (N.getD v0).ak] 25)).cell? ⟨w5.heap.size, 0, none⟩ = some (.int .u64 (N.getD v0).ts) := T7.out.get.cell 0
      have u0 : (w5.alloc (.cells #[.int .u64 (N.getD v0).ts, .int .u64 (N.getD v0).ln, .bool (N.getD v0).dl, .string (N.getD v0).vl, .bool (N.getD v0).ak] 25)).cell? ⟨w.heap.size, 0, none⟩ = some (.int .u64 u.ts) := T7.out.drop.drop.drop.get.cell 0
      by_cases hc : N.isSome = true ∧ u.ts < (N.getD v0).ts
      · obtain ⟨hc1, hc2⟩ := hc
        have hE : putE l u = 14 := by rw [hce.out, if_pos ⟨hc1, hc2⟩]
        have hL : putL l u = l := putL_no l u (by rw [hE]; decide)
        rw [hE]
        rw [hL] at T7 ⊢
        clear hE hL
        generalize N.getD v0 = y at *
        simp only [vrV]
        go_wp2_with fail
        refine (T7.out.read (same_c _ _ _ l l T7.out.drop.lv T7.out.drop.drop.lv)).mono ?_
        rintro e w6 ⟨rfl, h⟩
        rw [(sameB_iff _ _).2 rfl]
        have T8 := hid h
        clear h T7 n0 u0
        go_wp2
        go_ret
        exact ⟨rfl, T8.out.m⟩
      · have hE : putE l u = 0 := by rw [hce.out, if_neg hc]
        have hL : putL l u = withoutB (tsP u.ts) l ++ [u] := by unfold putL; rw [if_pos hE]
        have hle := new_le Hmay.out (t := u.ts) (by rw [HN.out]; exact hc)
        have hle2 := hid hle
        have hpl : (withoutB (tsP u.ts) l ++ [u]).length ≤ 41 := by
          have := without_len (tsP u.ts) l
          simp; omega
        have hnew := hid (fun q (hq : u.ts ≤ q) => put_sees_new (t := q) Hmay.out hle hq)
        have hold := hid (fun q (hq : q < u.ts) => put_sees_old (t := q) Hmay.out hle hq)
        have hcut := hid (put_cut Hmay.out hle)
        rw [hE]
        rw [hL] at T7 ⊢
        clear hE hL hce hle hle2
        generalize withoutB (tsP u.ts) l ++ [u] = P at *
        have hX : (N.isSome = false) ∨ (N.isSome = true ∧ ¬ u.ts < (N.getD v0).ts) := by
          cases h : N.isSome
          · exact Or.inl rfl
          · exact Or.inr ⟨rfl, fun h2 => hc ⟨h, h2⟩⟩
        clear hc
        generalize N.getD v0 = y at *
        have hq5 := Nat.mod_lt t (show 0 < 500 by decide)
        generalize t % 500 = q at *
        generalize N.isSome = z at *
        clear HN
        simp only [vrV]
        rcases hX with rfl | ⟨rfl, hlt⟩
        all_goals
          go_wp2_with fail
          refine (T7.out.seen (visible_c _ _ P q T7.out.drop.lv)).mono ?_
          rintro e w6 ⟨rfl, h⟩
          obtain ⟨A, hA⟩ : ∃ A, seenB (visP q) P = A := ⟨_, rfl⟩
          rw [hA]
          have T8 := hid (h.box (vrC (A.getD v0)).toArray 25)
          have HA := hid hA
          clear h hA T7 n0 u0
          simp only [vrV]
          go_wp2_with fail
          refine (T8.out.seen (visible_c _ _ l q T8.out.drop.drop.drop.lv)).mono ?_
          rintro e w7 ⟨rfl, h⟩
          obtain ⟨B, hB⟩ : ∃ B, seenB (visP q) l = B := ⟨_, rfl⟩
          rw [hB]
          have T9 := hid (h.box (vrC (B.getD v0)).toArray 25)
          have HB := hid hB
          clear h hB T8
          simp only [vrV]
          rcases Nat.lt_or_ge q u.ts with hq | hq
          · have hAB : A = B := by rw [← HA.out, ← HB.out]; exact hold.out q hq
            subst hAB
            generalize A.getD v0 = x at *
            generalize A.isSome = sx at *
            have p0 : (w7.alloc (.cells #[.int .u64 x.ts, .int .u64 x.ln, .bool x.dl, .string x.vl, .bool x.ak] 25)).cell? ⟨w7.heap.size, 0, none⟩ = some (.int .u64 x.ts) := T9.out.get.cell 0
            have p1 : (w7.alloc (.cells #[.int .u64 x.ts, .int .u64 x.ln, .bool x.dl, .string x.vl, .bool x.ak] 25)).cell? ⟨w7.heap.size, 1, none⟩ = some (.int .u64 x.ln) := T9.out.get.cell 1
            have p2 : (w7.alloc (.cells #[.int .u64 x.ts, .int .u64 x.ln, .bool x.dl, .string x.vl, .bool x.ak] 25)).cell? ⟨w7.heap.size, 2, none⟩ = some (.bool x.dl) := T9.out.get.cell 2
            have p3 : (w7.alloc (.cells #[.int .u64 x.ts, .int .u64 x.ln, .bool x.dl, .string x.vl, .bool x.ak] 25)).cell? ⟨w7.heap.size, 3, none⟩ = some (.string x.vl) := T9.out.get.cell 3
            have p4 : (w7.alloc (.cells #[.int .u64 x.ts, .int .u64 x.ln, .bool x.dl, .string x.vl, .bool x.ak] 25)).cell? ⟨w7.heap.size, 4, none⟩ = some (.bool x.ak) := T9.out.get.cell 4
            have q0 : (w7.alloc (.cells #[.int .u64 x.ts, .int .u64 x.ln, .bool x.dl, .string x.vl, .bool x.ak] 25)).cell? ⟨w6.heap.size, 0, none⟩ = some (.int .u64 x.ts) := T9.out.drop.get.cell 0
            have q1 : (w7.alloc (.cells #[.int .u64 x.ts, .int .u64 x.ln, .bool x.dl, .string x.vl, .bool x.ak] 25)).cell? ⟨w6.heap.size, 1, none⟩ = some (.int .u64 x.ln) := T9.out.drop.get.cell 1
            have q2 : (w7.alloc (.cells #[.int .u64 x.ts, .int .u64 x.ln, .bool x.dl, .string x.vl, .bool x.ak] 25)).cell? ⟨w6.heap.size, 2, none⟩ = some (.bool x.dl) := T9.out.drop.get.cell 2
            have q3 : (w7.alloc (.cells #[.int .u64 x.ts, .int .u64 x.ln, .bool x.dl, .string x.vl, .bool x.ak] 25)).cell? ⟨w6.heap.size, 3, none⟩ = some (.string x.vl) := T9.out.drop.get.cell 3
            have q4 : (w7.alloc (.cells #[.int .u64 x.ts, .int .u64 x.ln, .bool x.dl, .string x.vl, .bool x.ak] 25)).cell? ⟨w6.heap.size, 4, none⟩ = some (.bool x.ak) := T9.out.drop.get.cell 4
            have r0 : (w7.alloc (.cells #[.int .u64 x.ts, .int .u64 x.ln, .bool x.dl, .string x.vl, .bool x.ak] 25)).cell? ⟨w.heap.size, 0, none⟩ = some (.int .u64 u.ts) := T9.out.drop.drop.drop.drop.drop.get.cell 0
            have heq := eq_vr x x
            rw [(eqV_iff _ _).2 rfl] at heq
            go_wp2_with fail
            refine (T9.out.own (cut_c _ _ P u.ts T9.out.drop.drop.drop.lv (by omega))).mono ?_
            rintro e w8 ⟨a8, c8, rfl, h⟩
            rw [hcut.out] at h ⊢
            have T10 := hid h
            have g0 : w8.cell? ⟨w.heap.size, 0, none⟩ = some (.int .u64 u.ts) := T10.out.drop.drop.drop.drop.drop.drop.get.cell 0
            clear h T9 p0 p1 p2 p3 p4 q0 q1 q2 q3 q4 r0 heq
            go_wp2_with fail
            refine (T10.out.own (cut_c _ _ l u.ts T10.out.drop.drop.drop.drop.drop.lv (by omega))).mono ?_
            rintro e w9 ⟨a9, c9, rfl, h⟩
            have T11 := hid h
            clear h T10 g0
            go_wp2_with fail
            refine (T11.out.read (same_c _ _ _ _ _ T11.out.drop.lv T11.out.lv)).mono ?_
            rintro e w10 ⟨rfl, h⟩
            rw [(sameB_iff _ _).2 rfl]
            have T12 := hid h
            clear h T11
            go_wp2
            go_ret
            exact ⟨rfl, T12.out.m⟩
          · have hAu : A = some u := by rw [← HA.out]; exact hnew.out q hq
            subst hAu
            generalize B.getD v0 = x at *
            generalize B.isSome = sx at *
            simp only [Option.getD_some, Option.isSome_some] at *
            have q0 : (w7.alloc (.cells #[.int .u64 x.ts, .int .u64 x.ln, .bool x.dl, .string x.vl, .bool x.ak] 25)).cell? ⟨w6.heap.size, 0, none⟩ = some (.int .u64 u.ts) := T9.out.drop.get.cell 0
            have q1 : (w7.alloc (.cells #[.int .u64 x.ts, .int .u64 x.ln, .bool x.dl, .string x.vl, .bool x.ak] 25)).cell? ⟨w6.heap.size, 1, none⟩ = some (.int .u64 u.ln) := T9.out.drop.get.cell 1
            have q2 : (w7.alloc (.cells #[.int .u64 x.ts, .int .u64 x.ln, .bool x.dl, .string x.vl, .bool x.ak] 25)).cell? ⟨w6.heap.size, 2, none⟩ = some (.bool u.dl) := T9.out.drop.get.cell 2
            have q3 : (w7.alloc (.cells #[.int .u64 x.ts, .int .u64 x.ln, .bool x.dl, .string x.vl, .bool x.ak] 25)).cell? ⟨w6.heap.size, 3, none⟩ = some (.string u.vl) := T9.out.drop.get.cell 3
            have q4 : (w7.alloc (.cells #[.int .u64 x.ts, .int .u64 x.ln, .bool x.dl, .string x.vl, .bool x.ak] 25)).cell? ⟨w6.heap.size, 4, none⟩ = some (.bool u.ak) := T9.out.drop.get.cell 4
            have r0 : (w7.alloc (.cells #[.int .u64 x.ts, .int .u64 x.ln, .bool x.dl, .string x.vl, .bool x.ak] 25)).cell? ⟨w.heap.size, 0, none⟩ = some (.int .u64 u.ts) := T9.out.drop.drop.drop.drop.drop.get.cell 0
            have r1 : (w7.alloc (.cells #[.int .u64 x.ts, .int .u64 x.ln, .bool x.dl, .string x.vl, .bool x.ak] 25)).cell? ⟨w.heap.size, 1, none⟩ = some (.int .u64 u.ln) := T9.out.drop.drop.drop.drop.drop.get.cell 1
            have r2 : (w7.alloc (.cells #[.int .u64 x.ts, .int .u64 x.ln, .bool x.dl, .string x.vl, .bool x.ak] 25)).cell? ⟨w.heap.size, 2, none⟩ = some (.bool u.dl) := T9.out.drop.drop.drop.drop.drop.get.cell 2
            have r3 : (w7.alloc (.cells #[.int .u64 x.ts, .int .u64 x.ln, .bool x.dl, .string x.vl, .bool x.ak] 25)).cell? ⟨w.heap.size, 3, none⟩ = some (.string u.vl) := T9.out.drop.drop.drop.drop.drop.get.cell 3
            have r4 : (w7.alloc (.cells #[.int .u64 x.ts, .int .u64 x.ln, .bool x.dl, .string x.vl, .bool x.ak] 25)).cell? ⟨w.heap.size, 4, none⟩ = some (.bool u.ak) := T9.out.drop.drop.drop.drop.drop.get.cell 4
            have heq := eq_vr u u
            rw [(eqV_iff _ _).2 rfl] at heq
            go_wp2_with fail
            refine (T9.out.own (cut_c _ _ P u.ts T9.out.drop.drop.drop.lv (by omega))).mono ?_
            rintro e w8 ⟨a8, c8, rfl, h⟩
            rw [hcut.out] at h ⊢
            have T10 := hid h
            have g0 : w8.cell? ⟨w.heap.size, 0, none⟩ = some (.int .u64 u.ts) := T10.out.drop.drop.drop.drop.drop.drop.get.cell 0
            clear h T9 q0 q1 q2 q3 q4 r0 r1 r2 r3 r4 heq
            go_wp2_with fail
            refine (T10.out.own (cut_c _ _ l u.ts T10.out.drop.drop.drop.drop.drop.lv (by omega))).mono ?_
            rintro e w9 ⟨a9, c9, rfl, h⟩
            have T11 := hid h
            clear h T10 g0
            go_wp2_with fail
            refine (T11.out.read (same_c _ _ _ _ _ T11.out.drop.lv T11.out.lv)).mono ?_
            rintro e w10 ⟨rfl, h⟩
            rw [(sameB_iff _ _).2 rfl]
            have T12 := hid h
            clear h T11
            go_wp2
            go_ret
            exact ⟨rfl, T12.out.m⟩

open Go.ChangeShapes Go.WideShapes Go.Deep in
theorem open_ver {H : Type} {enc : TypeId × Value → H} {w : World} {base : Nat} {spare : Nat → Bool} {held : Bool} {r : Reach} {b0 : Nat} {v : Value} {d : DataW H} {p : List MemPlace}
    (hv : Value.okWide Try.prog w r b0 25 v) (h : DataW.Trod enc Try.prog w base spare held 25 v d p) : ∃ x : Vr, v = vrV x ∧ x.Ok := by
  have hC : Try.prog.cellsOf 25 = 5 := by kernel_rfl
  obtain ⟨cs, rfl, hsz⟩ := okWide_struct Try.underlying25 hv
  obtain ⟨fuel, hx⟩ := h
  obtain ⟨l⟩ := cs
  have c3 : Try.prog.cellsOf 23 = 1 := by kernel_rfl
  have c4 : Try.prog.cellsOf 4 = 1 := by kernel_rfl
  have c9 : Try.prog.cellsOf 9 = 1 := by kernel_rfl
  obtain ⟨ys, n, _, _, _, hyl, hf⟩ := DataW.trod_struct Try.underlying25 hx
  match l, hsz.trans hC, ys, hyl with
  | [v0, v1, v2, v3, v4], _, [y0, y1, y2, y3, y4], _ =>
    have t0 : DataW.trod enc Try.prog w base spare held n 23 (([v0, v1, v2, v3, v4].drop 0).take (Try.prog.cellsOf 23)) = some y0 := hf 0 _ rfl
    have t1 : DataW.trod enc Try.prog w base spare held n 23 (([v0, v1, v2, v3, v4].drop 1).take (Try.prog.cellsOf 23)) = some y1 := hf 1 _ rfl
    have t2 : DataW.trod enc Try.prog w base spare held n 4 (([v0, v1, v2, v3, v4].drop 2).take (Try.prog.cellsOf 4)) = some y2 := hf 2 _ rfl
    have t3 : DataW.trod enc Try.prog w base spare held n 9 (([v0, v1, v2, v3, v4].drop 3).take (Try.prog.cellsOf 9)) = some y3 := hf 3 _ rfl
    have t4 : DataW.trod enc Try.prog w base spare held n 4 (([v0, v1, v2, v3, v4].drop 4).take (Try.prog.cellsOf 4)) = some y4 := hf 4 _ rfl
    rw [c3] at t0 t1
    rw [c4] at t2 t4
    rw [c9] at t3
    obtain ⟨n0, e0, _, w0⟩ := DataW.trod_int Try.underlying23 t0
    obtain ⟨n1, e1, _, w1⟩ := DataW.trod_int Try.underlying23 t1
    obtain ⟨b2, e2, _⟩ := DataW.trod_bool Try.underlying4 t2
    obtain ⟨ss, e3, _, hs⟩ := DataW.trod_string Try.underlying9 t3
    obtain ⟨b4, e4, _⟩ := DataW.trod_bool Try.underlying4 t4
    obtain ⟨k0, rfl, h0⟩ := u64_bnd w0
    obtain ⟨k1, rfl, h1⟩ := u64_bnd w1
    simp at e0 e1 e2 e3 e4
    subst e0 e1 e2 e3 e4
    exact ⟨⟨k0, k1, b2, ss, b4⟩, rfl, h0, h1, by simpa [maxLen] using hs⟩

theorem puts_said {H : Type} {enc : TypeId × Value → H} {base : Nat} {spare : Nat → Bool} {held : Bool} {d : DataW H} {p : List MemPlace} (a : Option Addr) (len cap : Nat) (v : Vr) (t : Int) (w : World)
    (h : DataW.Trod enc Try.prog w base spare held 22 (.slice a len cap) d p) (hv : v.Ok) (ht : (Lit.int .u16 t).wf = true) :
    Calls Try.prog 5 #[.slice a len cap, vrV v, .int .u16 t] w fun e w' => e = .returned (.bool true) ∧ Mod [] w w' := by
  obtain ⟨xs, hl, _, _⟩ := open_vers h
  obtain ⟨m, rfl, hm⟩ := u16_bnd ht
  exact puts_walk _ xs v m w hl hv hm

end Go.Proofs.Ytmdomihpohekiaa
