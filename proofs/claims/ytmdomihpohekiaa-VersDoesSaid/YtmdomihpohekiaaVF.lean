/- rising; a slice of a list; the law VersPrunes. -/
import Derived.Test.YtmdomihpohekiaaVE
namespace Go.Proofs.Ytmdomihpohekiaa
set_option linter.unusedVariables false
set_option linter.unusedSimpArgs false
set_option linter.unusedSectionVars false
open Go.RowKit

theorem vsC_one_rdl (W : World) (b : Nat) (x : Vr) (h : Blk W b #[.int .u64 x.ts, .int .u64 x.ln, .bool x.dl, .string x.vl, .bool x.ak] 25) : Rdl W 5 (.slice (some ⟨b, 0, none⟩) 1 1) 1 (vsC [x]) := by
  refine ⟨rfl, Or.inr ⟨_, 0, 1, rfl, fun j hj => ?_⟩⟩
  rw [Nat.zero_add, h.cell, ← Array.getElem?_toList]
  rfl

set_option maxRecDepth 100000 in
set_option maxHeartbeats 2000000 in
theorem rising_c (w : World) (v : Value) (l : List Vr) (h : Lv w v l) :
    Calls Try.prog 26 #[v] w (OwnSays w (risB l)) := by
  have H := hid h
  obtain ⟨a, cap, rfl, _, hlen⟩ := h
  go_enter Try.func26, Try.ntmps26
  go_wp2
  go_loopg [3, 4, 5] 40 (fun g o t i wr => ∃ (k : Nat) (v : Value) (L : List Nat), o = v ∧ t = .int .u64 (tA l k) ∧ i = .int .i64 k ∧ k + g = 40 ∧ k ≤ l.length ∧ Hid (Own wr 25 5 v k (vsC ((List.range k).map (risX l))) L) ∧ Hid (Mod [] w wr) ∧ Hid (∀ x ∈ L, w.heap.size ≤ x))
  · exact ⟨0, _, [], rfl, rfl, rfl, by omega, by omega, Own.nil _ _ _, Mod.refl _ _, hid (by simp)⟩
  · obtain ⟨k, v, L, rfl, rfl, rfl, hk, hkl, ho, hM, hF⟩ := hrel
    have ho2 := ho.out
    obtain ⟨a3, cp, rfl, _⟩ := ho2.val
    clear ho2
    by_cases hlt : k < l.length ∧ k < 40
    · obtain ⟨hlt1, hlt2⟩ := hlt
      obtain ⟨x, hx⟩ : ∃ x, l[k]? = some x := ⟨_, List.getElem?_eq_getElem hlt1⟩
      obtain ⟨b, off, rfl, c0, c1, c2, c3, c4⟩ := (H.out.mod hM.out).at hx
      have hT := tA_le l k
      have hnew : tA l (k + 1) = tA l k + 1 + x.ts % 9 := by simp only [tA, tsA_at hx]
      have hX : risX l k = { x with ts := tA l (k + 1) } := by simp [risX, hx]
      have HX := hid hX
      have Hnew := hid hnew
      have hmod : Int.tmod (x.ts : Int) 9 = ((x.ts % 9 : Nat) : Int) := rfl
      have hm9 := Nat.mod_lt x.ts (show 0 < 9 by decide)
      generalize x.ts % 9 = r at *
      generalize tA l k = t at *
      clear hx hX hnew
      have hrd : Hid (Rdl ((wr.alloc (.cells #[.int .u64 ((t : Int) + 1 + (r : Int)), .int .u64 x.ln, .bool x.dl, .string x.vl, .bool x.ak] 25)).alloc (.cells #[.int .u64 ((t : Int) + 1 + (r : Int)), .int .u64 x.ln, .bool x.dl, .string x.vl, .bool x.ak] 25)) 5 (.slice (some ⟨wr.heap.size + 1, 0, none⟩) 1 1) 1 (vsC [risX l k])) := by
        have hc : ((t + 1 + r : Nat) : Int) = (t : Int) + 1 + (r : Int) := by omega
        have h := Blk.new (wr.alloc (.cells #[.int .u64 ((t : Int) + 1 + (r : Int)), .int .u64 x.ln, .bool x.dl, .string x.vl, .bool x.ak] 25)) #[.int .u64 ((t : Int) + 1 + (r : Int)), .int .u64 x.ln, .bool x.dl, .string x.vl, .bool x.ak] 25
        rw [World.size_alloc] at h
        rw [HX.out, Hnew.out]
        refine vsC_one_rdl _ _ _ ?_
        show Blk _ _ #[.int .u64 ((t + 1 + r : Nat) : Int), .int .u64 x.ln, .bool x.dl, .string x.vl, .bool x.ak] _
        rw [hc]
        exact h
      have hoA : Hid (Own ((wr.alloc (.cells #[.int .u64 ((t : Int) + 1 + (r : Int)), .int .u64 x.ln, .bool x.dl, .string x.vl, .bool x.ak] 25)).alloc (.cells #[.int .u64 ((t : Int) + 1 + (r : Int)), .int .u64 x.ln, .bool x.dl, .string x.vl, .bool x.ak] 25)) 25 5 (.slice a3 k cp) k (vsC ((List.range k).map (risX l))) L) := ho.out.mod (((Mod.refl [] wr).alloc _).alloc _) (by simp)
      have hmA : Hid (Mod [] w ((wr.alloc (.cells #[.int .u64 ((t : Int) + 1 + (r : Int)), .int .u64 x.ln, .bool x.dl, .string x.vl, .bool x.ak] 25)).alloc (.cells #[.int .u64 ((t : Int) + 1 + (r : Int)), .int .u64 x.ln, .bool x.dl, .string x.vl, .bool x.ak] 25))) := (hM.out.alloc _).alloc _
      have hone : ∀ u ∈ vsC [risX l k], u.oneCell' = true := vsC_one _
      go_wp2_with (at_builtin; refine wpList_append_rdl rfl (.tmp 32) (.tmp 34) 22 25 rfl Try.underlying22 elem_ver rfl (by decide) rfl hoA.out rfl hrd.out hone (by omega) (by omega) ?_; intro v5 w5 L5 g1 g2 g3)
      go_roundg (gk - 1)
      case measure => omega
      case rel =>
        refine ⟨k + 1, v5, L5, rfl, ?_, by go_num, by omega, by omega, ?_, hmA.out.fresh g2.out hF.out, fun y hy => (g3.out y hy).elim (hF.out y) (Nat.le_trans hmA.out.size)⟩
        · rw [Hnew.out]; go_num
        · show Own _ _ _ _ _ _ _
          rw [List.range_succ, List.map_append, vsC_append]
          exact g1.out
    · rcases (by omega : ¬ k < l.length ∨ (k < l.length ∧ ¬ k < 40)) with h1 | ⟨h1, h2⟩
      all_goals
        clear hlt
        go_wp2
        go_ret
        have hmin : min l.length 40 = k := by omega
        refine ⟨_, L, rfl, ?_, hM.out, hF.out⟩
        rw [risB_len, hmin]
        unfold risB
        rw [hmin]
        exact ho.out

/-- The end of a list, as a slice. -/
theorem Lv.sub {w : World} {a : Option Addr} {n cap k : Nat} {l P : List Vr} (h : Lv w (.slice a n cap) l) (hk : k ≤ n) (hP : P = l.drop k) (n' c' : Nat) (hn : n' = n - k) : Lv w (.slice (a.map fun x => x.add (k * 5)) n' c') P := by
  obtain ⟨a', cap', hv, h1, h2⟩ := h
  simp only [Value.slice.injEq] at hv
  obtain ⟨rfl, rfl, rfl⟩ := hv
  subst hP hn
  refine ⟨_, _, by rw [List.length_drop], ?_, by rw [List.length_drop]; omega⟩
  rcases h1 with rfl | ⟨b', off', rfl, hc⟩
  · exact Or.inl (by simp)
  · refine Or.inr ⟨b', off' + k * 5, by simp [Addr.add], fun i x hx j v hj => ?_⟩
    rw [List.getElem?_drop] at hx
    have := hc (k + i) x hx j v hj
    rw [← this]
    congr 2
    omega
theorem Lv.none {w : World} {P : List Vr} (a : Option Addr) (n' c' : Nat) (hP : P.length = 0) (hn : n' = 0) : Lv w (.slice a n' c') P := by
  obtain rfl := List.eq_nil_of_length_eq_zero hP
  subst hn
  exact ⟨a, c', rfl, Or.inl rfl, by simp⟩

set_option maxRecDepth 100000 in
set_option maxHeartbeats 4000000 in
theorem prunes_walk (lv : Value) (xs : List Vr) (o t : Nat) (w : World) (h : Lv w lv xs) (ho : o < 65536) (ht : t < 65536) :
    Calls Try.prog 4 #[lv, .int .u16 o, .int .u16 t] w fun e w' => e = .returned (.bool true) ∧ Mod [] w w' := by
  have H := hid h
  obtain ⟨a, cap, rfl, _, hlen⟩ := h
  have hmo : Int.tmod (o : Int) 400 = ((o % 400 : Nat) : Int) := rfl
  have hmt : Int.tmod (t : Int) 400 = ((t % 400 : Nat) : Int) := rfl
  have ho4 := Nat.mod_lt o (show 0 < 400 by decide)
  have ht4 := Nat.mod_lt t (show 0 < 400 by decide)
  generalize o % 400 = p at *
  generalize t % 400 = q at *
  go_enter Try.func4, Try.ntmps4
  go_wp2_with fail
  refine ((Top.start w).read (works_c _)).mono ?_
  rintro e w1 ⟨rfl, h1⟩
  have T1 := hid h1
  clear h1
  go_wp2_with fail
  refine (T1.out.own (rising_c _ _ _ (H.out.mod T1.out.m))).mono ?_
  rintro e w2 ⟨a2, c2, rfl, h2⟩
  have hmay := risB_may xs
  have hln := risB_len xs
  generalize risB xs = l at *
  have T2 := hid h2
  have hl40 : l.length ≤ 40 := by omega
  have Hmay := hid hmay
  clear h2 T1 hmay hln hlen H
  go_wp2_with fail
  refine (T2.out.own (prune_c _ _ _ p T2.out.lv (by omega))).mono ?_
  rintro e w3 ⟨a3, c3, rfl, h3⟩
  have hlc : l.length ≤ c2 := by
    obtain ⟨L, ho⟩ := h3.drop.res
    obtain ⟨_, _, e, h, _⟩ := ho.val
    simp only [Value.slice.injEq, true_and] at e
    omega
  have hpe := prune_end p l Hmay.out
  have hpp := prune_prune p l Hmay.out
  have hps := prune_sees p (p + q) l Hmay.out (by omega)
  generalize pruneB p l = P at *
  have T3 := hid h3
  obtain ⟨hple, hpd⟩ := hpe
  have Hpd := hid hpd
  have Hpp := hid hpp
  have Hps := hid hps
  clear h3 T2 hpd hpp hps
  go_wp2_with fail
  all_goals
    try subst h
    refine (T3.out.read (same_c _ _ _ P P T3.out.lv ?_)).mono ?_
    · first
        | exact T3.out.drop.lv.sub (by omega) Hpd.out _ _ rfl
        | exact Lv.none _ _ _ (by omega) (by omega)
    rintro e w4 ⟨rfl, h⟩
    rw [(sameB_iff _ _).2 rfl]
    have T4 := hid h
    clear h
    go_wp2_with fail
    refine (T4.out.own (prune_c _ _ _ p T4.out.lv (by omega))).mono ?_
    rintro e w5 ⟨a5, c5, rfl, h⟩
    rw [Hpp.out] at h ⊢
    have T5 := hid h
    clear h T4 T3
    go_wp2_with fail
    refine (T5.out.read (same_c _ _ _ P P T5.out.lv T5.out.drop.lv)).mono ?_
    rintro e w6 ⟨rfl, h⟩
    rw [(sameB_iff _ _).2 rfl]
    have T6 := hid h.drop
    clear h T5
    go_wp2_with fail
    refine (T6.out.seen (visible_c _ _ l (p + q) T6.out.drop.lv)).mono ?_
    rintro e w7 ⟨rfl, h⟩
    obtain ⟨A, hA⟩ : ∃ A, seenB (visP (p + q)) l = A := ⟨_, rfl⟩
    rw [hA]
    have T7 := hid (h.box (vrC (A.getD v0)).toArray 25).swap
    have HA := hid hA
    clear h hA T6
    simp only [vrV]
    go_wp2_with fail
    refine (T7.out.seen (visible_c _ _ P (p + q) T7.out.lv)).mono ?_
    rintro e w8 ⟨rfl, h⟩
    obtain ⟨B, hB⟩ : ∃ B, seenB (visP (p + q)) P = B := ⟨_, rfl⟩
    rw [hB]
    have T8 := hid (h.box (vrC (B.getD v0)).toArray 25)
    have HB := hid hB
    clear h hB T7
    cases A with
    | none =>
      simp only [vrV, Option.isSome_none, Option.getD_none]
      go_wp2
      go_ret
      exact ⟨rfl, T8.out.m⟩
    | some x =>
      obtain ⟨a0, a1, a2', a3', a4, _⟩ := Blk.five (a0 := .int .u64 x.ts) (a1 := .int .u64 x.ln) (a2 := .bool x.dl) (a3 := .string x.vl) (a4 := .bool x.ak) T8.out.drop.drop.get
      by_cases hx : x.ln = 0
      · have hx2 : ((x.ln : Int) == 0) = true := by simp; omega
        clear hx
        generalize B.getD v0 = y at *
        generalize B.isSome = z at *
        replace a1 : (w8.alloc (.cells #[.int .u64 y.ts, .int .u64 y.ln, .bool y.dl, .string y.vl, .bool y.ak] 25)).cell? ⟨w7.heap.size, 1, none⟩ = some (.int .u64 x.ln) := a1
        clear a0 a2' a3' a4
        simp only [vrV, Option.isSome_some, Option.getD_some]
        go_wp2
        go_ret
        exact ⟨rfl, T8.out.m⟩
      · have hx2 : ((x.ln : Int) == 0) = false := by simp; omega
        have hB : B = some x := by rw [← HB.out]; exact Hps.out x HA.out hx
        subst hB
        have heq := eq_vr x x
        rw [(eqV_iff x x).2 rfl] at heq
        clear hx
        obtain ⟨b0, b1, b2, b3, b4, _⟩ := Blk.five (a0 := .int .u64 x.ts) (a1 := .int .u64 x.ln) (a2 := .bool x.dl) (a3 := .string x.vl) (a4 := .bool x.ak) T8.out.get
        replace a0 : (w8.alloc (.cells #[.int .u64 x.ts, .int .u64 x.ln, .bool x.dl, .string x.vl, .bool x.ak] 25)).cell? ⟨w7.heap.size, 0, none⟩ = some (.int .u64 x.ts) := a0
        replace a1 : (w8.alloc (.cells #[.int .u64 x.ts, .int .u64 x.ln, .bool x.dl, .string x.vl, .bool x.ak] 25)).cell? ⟨w7.heap.size, 1, none⟩ = some (.int .u64 x.ln) := a1
        replace a2' : (w8.alloc (.cells #[.int .u64 x.ts, .int .u64 x.ln, .bool x.dl, .string x.vl, .bool x.ak] 25)).cell? ⟨w7.heap.size, 2, none⟩ = some (.bool x.dl) := a2'
        replace a3' : (w8.alloc (.cells #[.int .u64 x.ts, .int .u64 x.ln, .bool x.dl, .string x.vl, .bool x.ak] 25)).cell? ⟨w7.heap.size, 3, none⟩ = some (.string x.vl) := a3'
        replace a4 : (w8.alloc (.cells #[.int .u64 x.ts, .int .u64 x.ln, .bool x.dl, .string x.vl, .bool x.ak] 25)).cell? ⟨w7.heap.size, 4, none⟩ = some (.bool x.ak) := a4
        clear b0 b1 b2 b3 b4
        simp only [vrV, Option.isSome_some, Option.getD_some]
        go_wp2
        go_ret
        exact ⟨rfl, T8.out.m⟩

end Go.Proofs.Ytmdomihpohekiaa
