/- Put. -/
import Derived.Test.YtmdomihpohekiaaVA
namespace Go.Proofs.Ytmdomihpohekiaa
set_option linter.unusedVariables false
set_option linter.unusedSimpArgs false
set_option linter.unusedSectionVars false
open Go.RowKit

def newB (l : List Vr) : Option Vr := seenB (fun _ => true) l
def badB (l : List Vr) (v : Vr) : Bool := !mayB l || (v.dl && !v.vl.toList.isEmpty)
def putE (l : List Vr) (v : Vr) : Int := if badB l v then 2 else if 24 < v.vl.size then 3 else if (newB l).isSome ∧ v.ts < ((newB l).getD v0).ts then 14 else 0
def putL (l : List Vr) (v : Vr) : List Vr := if putE l v = 0 then withoutB (tsP v.ts) l ++ [v] else l

/-- What Put leaves. -/
def PutSays (w : World) (l : List Vr) (q : Int) (e : Ending) (w' : World) : Prop :=
  ∃ v L, e = .returned (.tuple #[v, .int .i64 q]) ∧ Own w' 25 5 v l.length (vsC l) L ∧ Mod [] w w' ∧ ∀ k ∈ L, w.heap.size ≤ k

set_option maxRecDepth 100000 in
theorem put_asks (w : World) (b : Nat) (v : Vr) (h : Blk w b (vrC v).toArray 25) : Asks w 37 #[.pointer (some ⟨b, 0, none⟩)] (tsP v.ts) := by
  refine ⟨enters_of Try.func37 (by kernel_rfl) rfl, fun W hW x => ?_⟩
  have c : W.cell? ⟨b, 0, none⟩ = some (.int .u64 v.ts) := (hW.blk h (by simp)).cell 0
  have hl := (hW.blk h (by simp)).lt
  unfold vrV
  show Calls Try.prog _ #[_, _] _ _
  go_enter Try.func37, Try.ntmps37
  go_wp2
  go_ret
  refine ⟨ret_bool ?_, (Mod.refl [] W).alloc _⟩
  rw [Bool.eq_iff_iff]; simp [tsP]; try omega

theorem without_len (p : Vr → Bool) (l : List Vr) : (withoutB p l).length ≤ l.length := by
  unfold withoutB
  split
  · exact keep_len p l
  · exact Nat.le_refl _
theorem putL_no (l : List Vr) (v : Vr) (h : putE l v ≠ 0) : putL l v = l := by unfold putL; rw [if_neg h]

set_option maxRecDepth 100000 in
set_option maxHeartbeats 4000000 in
theorem put_c (w : World) (lv : Value) (l : List Vr) (v : Vr) (h : Lv w lv l) (hl : l.length ≤ 1000000) (hvs : v.vl.size ≤ 9223372036854775807) :
    Calls Try.prog 14 #[lv, vrV v] w (PutSays w (putL l v) (putE l v)) := by
  have H := hid h
  obtain ⟨a, cap, rfl, _, _⟩ := h
  have hB := hid (Blk.new w #[.int .u64 v.ts, .int .u64 v.ln, .bool v.dl, .string v.vl, .bool v.ak] 25)
  have hM := hid ((Mod.refl [] w).alloc (.cells #[.int .u64 v.ts, .int .u64 v.ln, .bool v.dl, .string v.vl, .bool v.ak] 25))
  simp only [vrV]
  go_enter Try.func14, Try.ntmps14
  go_wp2_with fail
  refine (newest_c _ _ l (H.out.mod hM.out)).mono ?_
  rintro e w1 ⟨rfl, hm⟩
  have hM1 := hid ((hM.out.tr hm).alloc (.cells (vrC ((newB l).getD v0)).toArray 25))
  have hB1 := hid ((hm.blk hB.out (by simp)).alloc (.cells (vrC ((newB l).getD v0)).toArray 25))
  have hN1 := hid (Blk.new w1 (vrC ((newB l).getD v0)).toArray 25)
  clear hm hM hB
  obtain ⟨o, ho⟩ : ∃ o, newB l = o := ⟨_, rfl⟩
  rw [show seenB (fun _ => true) l = o from ho]
  rw [ho] at hM1 hB1 hN1
  have Ho := hid ho
  clear ho
  simp only [vrV]
  go_wp2_with fail
  refine (may_c _ _ l (H.out.mod hM1.out)).mono ?_
  rintro e w2 ⟨rfl, hm⟩
  have hM2 := hid (hM1.out.tr hm)
  have hB2 := hid (hm.blk hB1.out (by simp))
  have hN2 := hid (hm.blk hN1.out (by simp))
  clear hm hM1 hB1 hN1
  obtain ⟨c0, c1, c2, c3, c4, _⟩ := hB2.out.five
  have d0 : w2.cell? ⟨w1.heap.size, 0, none⟩ = some (.int .u64 (o.getD v0).ts) := hN2.out.cell 0
  have bl := hB2.out.lt
  have nl := hN2.out.lt
  have hX : (mayB l = false ∧ badB l v = true) ∨ (mayB l = true ∧ v.dl = true ∧ v.vl.toList.isEmpty = false ∧ badB l v = true) ∨ (mayB l = true ∧ v.dl = false ∧ badB l v = false) ∨ (mayB l = true ∧ v.dl = true ∧ v.vl.toList.isEmpty = true ∧ badB l v = false) := by
    cases h1 : mayB l <;> cases h2 : v.dl <;> cases h3 : v.vl.toList.isEmpty <;> simp [badB, h1, h2, h3]
  rcases hX with ⟨h1, hbad⟩ | ⟨h1, h2, h3, hbad⟩ | ⟨h1, h2, hbad⟩ | ⟨h1, h2, h3, hbad⟩
  · have he : Hid (putE l v = 2) := by show _ = _; simp [putE, hbad]
    have hp : Hid (putL l v = l) := putL_no l v (by rw [he.out]; decide)
    rw [h1]
    clear h1 hbad
    go_wp2_with fail
    refine (own_c _ _ l (H.out.mod hM2.out) hl).mono ?_
    rintro e w3 hs
    have Hs := hid (hs.tr hM2.out)
    obtain ⟨v3, L3, rfl, _⟩ := hs
    go_wp2
    go_ret2
    rw [he.out, hp.out]
    obtain ⟨v4, L4, h1, h2, h3, h4⟩ := Hs.out
    cases h1
    exact ⟨_, L4, rfl, h2, h3, h4⟩
  · have he : Hid (putE l v = 2) := by show _ = _; simp [putE, hbad]
    have hp : Hid (putL l v = l) := putL_no l v (by rw [he.out]; decide)
    rw [h1]
    rw [h2] at c2
    clear h1 h2 hbad
    go_wp2_with fail
    refine (own_c _ _ l (H.out.mod hM2.out) hl).mono ?_
    rintro e w3 hs
    have Hs := hid (hs.tr hM2.out)
    obtain ⟨v3, L3, rfl, _⟩ := hs
    go_wp2
    go_ret2
    rw [he.out, hp.out]
    obtain ⟨v4, L4, h1, h2, h3, h4⟩ := Hs.out
    cases h1
    exact ⟨_, L4, rfl, h2, h3, h4⟩
  all_goals
    rw [h1]
    rw [h2] at c2
    have Hm := hid h1
    have H2 := hid h2
    have hput : Hid (putE l v = if 24 < v.vl.size then 3 else if o.isSome ∧ v.ts < (o.getD v0).ts then 14 else 0) := by
      show _ = _
      unfold putE
      rw [hbad, Ho.out]; rfl
    clear h1 h2 hbad
    by_cases hsz : 24 < v.vl.size
    · have he : Hid (putE l v = 3) := by show _ = _; rw [hput.out, if_pos hsz]
      have hp : Hid (putL l v = l) := putL_no l v (by rw [he.out]; decide)
      clear hput
      go_wp2_with fail
      refine (own_c _ _ l (H.out.mod hM2.out) hl).mono ?_
      rintro e w3 hs
      have Hs := hid (hs.tr hM2.out)
      obtain ⟨v3, L3, rfl, _⟩ := hs
      go_wp2
      go_ret2
      rw [he.out, hp.out]
      obtain ⟨v4, L4, h1, h2, h3, h4⟩ := Hs.out
      cases h1
      exact ⟨_, L4, rfl, h2, h3, h4⟩
    · cases hs : o.isSome
      · have he : Hid (putE l v = 0) := by show _ = _; rw [hput.out, if_neg hsz, if_neg (by simp [hs])]
        clear hput hs
        go_wp2_with fail
        have c2' : w2.cell? ⟨w.heap.size, 2, none⟩ = some (.bool v.dl) := by rw [H2.out]; exact c2
        clear c2 H2 c0 c1 c2' c3 c4
        have hS : Hid (∀ X, Mod [] w2 X → X.cell? ⟨w.heap.size, 0, none⟩ = some (.int .u64 v.ts) ∧ X.cell? ⟨w.heap.size, 1, none⟩ = some (.int .u64 v.ln) ∧ X.cell? ⟨w.heap.size, 2, none⟩ = some (.bool v.dl) ∧ X.cell? ⟨w.heap.size, 3, none⟩ = some (.string v.vl) ∧ X.cell? ⟨w.heap.size, 4, none⟩ = some (.bool v.ak)) := by
          intro X hX
          obtain ⟨t0, t1, t2, t3, t4, _⟩ := (hX.blk hB2.out (by simp)).five
          exact ⟨t0, t1, t2, t3, t4⟩
        have hm1 : Hid (Mod [] w2 (w2.alloc (.cells #[.func (.func 37) #[] #[.pointer (some ⟨w.heap.size, 0, none⟩)]] 46)).drew) := ((Mod.refl [] w2).alloc _).drew
        have hm2 : Hid (Mod [] w2 ((w2.alloc (.cells #[.func (.func 37) #[] #[.pointer (some ⟨w.heap.size, 0, none⟩)]] 46)).alloc (.cells #[.int .u64 v.ts, .int .u64 v.ln, .bool v.dl, .string v.vl, .bool v.ak] 25)).drew) := (((Mod.refl [] w2).alloc _).alloc _).drew
        have hm3 : Hid (Mod [] w2 ((w2.alloc (.cells #[.int .u64 v.ts, .int .u64 v.ln, .bool v.dl, .string v.vl, .bool v.ak] 25)).alloc (.cells #[.func (.func 37) #[] #[.pointer (some ⟨w.heap.size, 0, none⟩)]] 46)).drew) := (((Mod.refl [] w2).alloc _).alloc _).drew
        have hb1 : Hid (Blk (w2.alloc (.cells #[.func (.func 37) #[] #[.pointer (some ⟨w.heap.size, 0, none⟩)]] 46)).drew w2.heap.size #[.func (.func 37) #[] #[.pointer (some ⟨w.heap.size, 0, none⟩)]] 46) := Blk.new w2 _ _
        have hb2 : Hid (Blk ((w2.alloc (.cells #[.func (.func 37) #[] #[.pointer (some ⟨w.heap.size, 0, none⟩)]] 46)).alloc (.cells #[.int .u64 v.ts, .int .u64 v.ln, .bool v.dl, .string v.vl, .bool v.ak] 25)).drew w2.heap.size #[.func (.func 37) #[] #[.pointer (some ⟨w.heap.size, 0, none⟩)]] 46) := (Blk.new w2 #[.func (.func 37) #[] #[.pointer (some ⟨w.heap.size, 0, none⟩)]] 46).alloc _
        have hb3 : Hid (Blk ((w2.alloc (.cells #[.int .u64 v.ts, .int .u64 v.ln, .bool v.dl, .string v.vl, .bool v.ak] 25)).alloc (.cells #[.func (.func 37) #[] #[.pointer (some ⟨w.heap.size, 0, none⟩)]] 46)).drew (w2.heap.size + 1) #[.func (.func 37) #[] #[.pointer (some ⟨w.heap.size, 0, none⟩)]] 46) := by
          have h := Blk.new (w2.alloc (.cells #[.int .u64 v.ts, .int .u64 v.ln, .bool v.dl, .string v.vl, .bool v.ak] 25)) #[.func (.func 37) #[] #[.pointer (some ⟨w.heap.size, 0, none⟩)]] 46
          rw [World.size_alloc] at h
          exact h
        have ha0 := hid (put_asks w2 w.heap.size v hB2.out)
        have hwl := without_len (tsP v.ts) l
        have hone : ∀ u ∈ vsC [v], u.oneCell' = true := vsC_one _
        have hrd : Hid (∀ (W : World) (b : Nat), Blk W b #[.int .u64 v.ts, .int .u64 v.ln, .bool v.dl, .string v.vl, .bool v.ak] 25 → Rdl W 5 (.slice (some ⟨b, 0, none⟩) 1 1) 1 (vsC [v])) := by
          intro W b hb
          refine ⟨rfl, Or.inr ⟨_, 0, 1, rfl, fun j hj => ?_⟩⟩
          rw [Nat.zero_add, hb.cell, ← Array.getElem?_toList]
          rfl
        have hv2 : Hid (Blk ((w2.alloc (.cells #[.func (.func 37) #[] #[.pointer (some ⟨w.heap.size, 0, none⟩)]] 46)).alloc (.cells #[.int .u64 v.ts, .int .u64 v.ln, .bool v.dl, .string v.vl, .bool v.ak] 25)).drew (w2.heap.size + 1) #[.int .u64 v.ts, .int .u64 v.ln, .bool v.dl, .string v.vl, .bool v.ak] 25) := by
          have h := Blk.new (w2.alloc (.cells #[.func (.func 37) #[] #[.pointer (some ⟨w.heap.size, 0, none⟩)]] 46)) #[.int .u64 v.ts, .int .u64 v.ln, .bool v.dl, .string v.vl, .bool v.ak] 25
          rw [World.size_alloc] at h
          exact h
        have hv3 : Hid (Blk ((w2.alloc (.cells #[.int .u64 v.ts, .int .u64 v.ln, .bool v.dl, .string v.vl, .bool v.ak] 25)).alloc (.cells #[.func (.func 37) #[] #[.pointer (some ⟨w.heap.size, 0, none⟩)]] 46)).drew w2.heap.size #[.int .u64 v.ts, .int .u64 v.ln, .bool v.dl, .string v.vl, .bool v.ak] 25) := (Blk.new w2 #[.int .u64 v.ts, .int .u64 v.ln, .bool v.dl, .string v.vl, .bool v.ak] 25).alloc _
        go_region_held3 (fun X => Mod [] w2 X ∧ X.cell? ⟨w.heap.size, 0, none⟩ = some (.int .u64 v.ts) ∧ X.cell? ⟨w.heap.size, 1, none⟩ = some (.int .u64 v.ln) ∧ X.cell? ⟨w.heap.size, 2, none⟩ = some (.bool v.dl) ∧ X.cell? ⟨w.heap.size, 3, none⟩ = some (.string v.vl) ∧ X.cell? ⟨w.heap.size, 4, none⟩ = some (.bool v.ak))
          (first
            | assumption
            | exact ⟨hm5.out, hS.out _ hm5.out⟩
            | (refine (fun h => ⟨h, hS.out _ h⟩) ?_; (repeat (first | exact hmw.out | refine Mod.drew ?_ | refine Mod.alloc ?_ _)); done)
            | (refine (fun h => ⟨h, hS.out _ h⟩) ?_; (repeat (first | exact Mod.refl [] w2 | refine Mod.drew ?_ | refine Mod.alloc ?_ _)); done)
            | fail)
          (first
            | (go_at_call 36; (with_reducible refine (without_c _ _ l (H.out.mod (hM2.out.tr hm1.out)) hl _ _ _ _ hb1.out (ha0.out.mod hm1.out)).mono ?_); rintro e w3 ⟨v3, L3, rfl, ho, hm, hf⟩; have hmw : Hid (Mod [] w2 w3) := hm1.out.tr hm; have hfw : Hid (∀ k ∈ L3, w2.heap.size ≤ k) := fun k hk => Nat.le_trans hm1.out.size (hf k hk); clear hm hf; obtain ⟨a3, cap3, hv3, _⟩ := ho.val; subst hv3; have Ho3 := hid ho; clear ho)
            | (go_at_call 36; (with_reducible refine (without_c _ _ l (H.out.mod (hM2.out.tr hm2.out)) hl _ _ _ _ hb2.out (ha0.out.mod hm2.out)).mono ?_); rintro e w3 ⟨v3, L3, rfl, ho, hm, hf⟩; have hmw : Hid (Mod [] w2 w3) := hm2.out.tr hm; have hfw : Hid (∀ k ∈ L3, w2.heap.size ≤ k) := fun k hk => Nat.le_trans hm2.out.size (hf k hk); have hvB := hid (hm.blk hv2.out (by simp)); clear hm hf; obtain ⟨a3, cap3, hv3, _⟩ := ho.val; subst hv3; have Ho3 := hid ho; clear ho)
            | (go_at_call 36; (with_reducible refine (without_c _ _ l (H.out.mod (hM2.out.tr hm3.out)) hl _ _ _ _ hb3.out (ha0.out.mod hm3.out)).mono ?_); rintro e w3 ⟨v3, L3, rfl, ho, hm, hf⟩; have hmw : Hid (Mod [] w2 w3) := hm3.out.tr hm; have hfw : Hid (∀ k ∈ L3, w2.heap.size ≤ k) := fun k hk => Nat.le_trans hm3.out.size (hf k hk); have hvB := hid (hm.blk hv3.out (by simp)); clear hm hf; obtain ⟨a3, cap3, hv3, _⟩ := ho.val; subst hv3; have Ho3 := hid ho; clear ho)
            | (refine step_append_rdl rfl (.tmp 49) (.tmp 51) 22 25 rfl Try.underlying22 elem_ver rfl (by decide) rfl Ho3.out rfl (hrd.out _ _ hvB.out) hone (by omega) (by omega) ?_; intro v5 w5 L5 g1 g2 g3; have hm5 : Hid (Mod [] w2 w5) := hmw.out.fresh g2.out hfw.out; have hf5 : Hid (∀ k ∈ L5, w2.heap.size ≤ k) := fun k hk => (g3.out k hk).elim (hfw.out k) (Nat.le_trans hmw.out.size); clear g2 g3)
            | (refine step_append_rdl rfl (.tmp 49) (.tmp 51) 22 25 rfl Try.underlying22 elem_ver rfl (by decide) rfl (Ho3.out.mod ((Mod.refl [] _).alloc _) (by simp)) rfl (hrd.out _ _ (Blk.new w3 _ _)) hone (by omega) (by omega) ?_; intro v5 w5 L5 g1 g2 g3; have hm5 : Hid (Mod [] w2 w5) := (hmw.out.alloc _).fresh g2.out hfw.out; have hf5 : Hid (∀ k ∈ L5, w2.heap.size ≤ k) := fun k hk => (g3.out k hk).elim (hfw.out k) (Nat.le_trans (hmw.out.alloc _).size); clear g2 g3)
            | fail)
        all_goals
          have G1 := hid g1.out
          obtain ⟨a5, cap5, hv5, _⟩ := g1.out.val
          subst hv5
          clear g1 hS hrd hone hwl
          go_wp2
          go_ret2
          rw [he.out]
          have hpl : putL l v = withoutB (tsP v.ts) l ++ [v] := by unfold putL; rw [if_pos he.out]
          refine ⟨_, L5, rfl, ?_, hM2.out.tr hm5.out, fun k hk => Nat.le_trans hM2.out.size (hf5.out k hk)⟩
          rw [hpl, vsC_append, List.length_append]
          exact G1.out
      · by_cases hts : v.ts < (o.getD v0).ts
        · have he : Hid (putE l v = 14) := by show _ = _; rw [hput.out, if_neg hsz, if_pos ⟨hs, hts⟩]
          have hp : Hid (putL l v = l) := putL_no l v (by rw [he.out]; decide)
          clear hput hs
          go_wp2_with fail
          refine (own_c _ _ l (H.out.mod hM2.out) hl).mono ?_
          rintro e w3 hs
          have Hs := hid (hs.tr hM2.out)
          obtain ⟨v3, L3, rfl, _⟩ := hs
          go_wp2
          go_ret2
          rw [he.out, hp.out]
          obtain ⟨v4, L4, h1, h2, h3, h4⟩ := Hs.out
          cases h1
          exact ⟨_, L4, rfl, h2, h3, h4⟩
        · have he : Hid (putE l v = 0) := by show _ = _; rw [hput.out, if_neg hsz, if_neg (by simp [hts])]
          clear hput hs
          go_wp2_with fail
          have c2' : w2.cell? ⟨w.heap.size, 2, none⟩ = some (.bool v.dl) := by rw [H2.out]; exact c2
          clear c2 H2 c0 c1 c2' c3 c4
          have hS : Hid (∀ X, Mod [] w2 X → X.cell? ⟨w.heap.size, 0, none⟩ = some (.int .u64 v.ts) ∧ X.cell? ⟨w.heap.size, 1, none⟩ = some (.int .u64 v.ln) ∧ X.cell? ⟨w.heap.size, 2, none⟩ = some (.bool v.dl) ∧ X.cell? ⟨w.heap.size, 3, none⟩ = some (.string v.vl) ∧ X.cell? ⟨w.heap.size, 4, none⟩ = some (.bool v.ak)) := by
            intro X hX
            obtain ⟨t0, t1, t2, t3, t4, _⟩ := (hX.blk hB2.out (by simp)).five
            exact ⟨t0, t1, t2, t3, t4⟩
          have hm1 : Hid (Mod [] w2 (w2.alloc (.cells #[.func (.func 37) #[] #[.pointer (some ⟨w.heap.size, 0, none⟩)]] 46)).drew) := ((Mod.refl [] w2).alloc _).drew
          have hm2 : Hid (Mod [] w2 ((w2.alloc (.cells #[.func (.func 37) #[] #[.pointer (some ⟨w.heap.size, 0, none⟩)]] 46)).alloc (.cells #[.int .u64 v.ts, .int .u64 v.ln, .bool v.dl, .string v.vl, .bool v.ak] 25)).drew) := (((Mod.refl [] w2).alloc _).alloc _).drew
          have hm3 : Hid (Mod [] w2 ((w2.alloc (.cells #[.int .u64 v.ts, .int .u64 v.ln, .bool v.dl, .string v.vl, .bool v.ak] 25)).alloc (.cells #[.func (.func 37) #[] #[.pointer (some ⟨w.heap.size, 0, none⟩)]] 46)).drew) := (((Mod.refl [] w2).alloc _).alloc _).drew
          have hb1 : Hid (Blk (w2.alloc (.cells #[.func (.func 37) #[] #[.pointer (some ⟨w.heap.size, 0, none⟩)]] 46)).drew w2.heap.size #[.func (.func 37) #[] #[.pointer (some ⟨w.heap.size, 0, none⟩)]] 46) := Blk.new w2 _ _
          have hb2 : Hid (Blk ((w2.alloc (.cells #[.func (.func 37) #[] #[.pointer (some ⟨w.heap.size, 0, none⟩)]] 46)).alloc (.cells #[.int .u64 v.ts, .int .u64 v.ln, .bool v.dl, .string v.vl, .bool v.ak] 25)).drew w2.heap.size #[.func (.func 37) #[] #[.pointer (some ⟨w.heap.size, 0, none⟩)]] 46) := (Blk.new w2 #[.func (.func 37) #[] #[.pointer (some ⟨w.heap.size, 0, none⟩)]] 46).alloc _
          have hb3 : Hid (Blk ((w2.alloc (.cells #[.int .u64 v.ts, .int .u64 v.ln, .bool v.dl, .string v.vl, .bool v.ak] 25)).alloc (.cells #[.func (.func 37) #[] #[.pointer (some ⟨w.heap.size, 0, none⟩)]] 46)).drew (w2.heap.size + 1) #[.func (.func 37) #[] #[.pointer (some ⟨w.heap.size, 0, none⟩)]] 46) := by
            have h := Blk.new (w2.alloc (.cells #[.int .u64 v.ts, .int .u64 v.ln, .bool v.dl, .string v.vl, .bool v.ak] 25)) #[.func (.func 37) #[] #[.pointer (some ⟨w.heap.size, 0, none⟩)]] 46
            rw [World.size_alloc] at h
            exact h
          have ha0 := hid (put_asks w2 w.heap.size v hB2.out)
          have hwl := without_len (tsP v.ts) l
          have hone : ∀ u ∈ vsC [v], u.oneCell' = true := vsC_one _
          have hrd : Hid (∀ (W : World) (b : Nat), Blk W b #[.int .u64 v.ts, .int .u64 v.ln, .bool v.dl, .string v.vl, .bool v.ak] 25 → Rdl W 5 (.slice (some ⟨b, 0, none⟩) 1 1) 1 (vsC [v])) := by
            intro W b hb
            refine ⟨rfl, Or.inr ⟨_, 0, 1, rfl, fun j hj => ?_⟩⟩
            rw [Nat.zero_add, hb.cell, ← Array.getElem?_toList]
            rfl
          have hv2 : Hid (Blk ((w2.alloc (.cells #[.func (.func 37) #[] #[.pointer (some ⟨w.heap.size, 0, none⟩)]] 46)).alloc (.cells #[.int .u64 v.ts, .int .u64 v.ln, .bool v.dl, .string v.vl, .bool v.ak] 25)).drew (w2.heap.size + 1) #[.int .u64 v.ts, .int .u64 v.ln, .bool v.dl, .string v.vl, .bool v.ak] 25) := by
            have h := Blk.new (w2.alloc (.cells #[.func (.func 37) #[] #[.pointer (some ⟨w.heap.size, 0, none⟩)]] 46)) #[.int .u64 v.ts, .int .u64 v.ln, .bool v.dl, .string v.vl, .bool v.ak] 25
            rw [World.size_alloc] at h
            exact h
          have hv3 : Hid (Blk ((w2.alloc (.cells #[.int .u64 v.ts, .int .u64 v.ln, .bool v.dl, .string v.vl, .bool v.ak] 25)).alloc (.cells #[.func (.func 37) #[] #[.pointer (some ⟨w.heap.size, 0, none⟩)]] 46)).drew w2.heap.size #[.int .u64 v.ts, .int .u64 v.ln, .bool v.dl, .string v.vl, .bool v.ak] 25) := (Blk.new w2 #[.int .u64 v.ts, .int .u64 v.ln, .bool v.dl, .string v.vl, .bool v.ak] 25).alloc _
          go_region_held3 (fun X => Mod [] w2 X ∧ X.cell? ⟨w.heap.size, 0, none⟩ = some (.int .u64 v.ts) ∧ X.cell? ⟨w.heap.size, 1, none⟩ = some (.int .u64 v.ln) ∧ X.cell? ⟨w.heap.size, 2, none⟩ = some (.bool v.dl) ∧ X.cell? ⟨w.heap.size, 3, none⟩ = some (.string v.vl) ∧ X.cell? ⟨w.heap.size, 4, none⟩ = some (.bool v.ak))
            (first
              | assumption
              | exact ⟨hm5.out, hS.out _ hm5.out⟩
              | (refine (fun h => ⟨h, hS.out _ h⟩) ?_; (repeat (first | exact hmw.out | refine Mod.drew ?_ | refine Mod.alloc ?_ _)); done)
              | (refine (fun h => ⟨h, hS.out _ h⟩) ?_; (repeat (first | exact Mod.refl [] w2 | refine Mod.drew ?_ | refine Mod.alloc ?_ _)); done)
              | fail)
            (first
              | (go_at_call 36; (with_reducible refine (without_c _ _ l (H.out.mod (hM2.out.tr hm1.out)) hl _ _ _ _ hb1.out (ha0.out.mod hm1.out)).mono ?_); rintro e w3 ⟨v3, L3, rfl, ho, hm, hf⟩; have hmw : Hid (Mod [] w2 w3) := hm1.out.tr hm; have hfw : Hid (∀ k ∈ L3, w2.heap.size ≤ k) := fun k hk => Nat.le_trans hm1.out.size (hf k hk); clear hm hf; obtain ⟨a3, cap3, hv3, _⟩ := ho.val; subst hv3; have Ho3 := hid ho; clear ho)
              | (go_at_call 36; (with_reducible refine (without_c _ _ l (H.out.mod (hM2.out.tr hm2.out)) hl _ _ _ _ hb2.out (ha0.out.mod hm2.out)).mono ?_); rintro e w3 ⟨v3, L3, rfl, ho, hm, hf⟩; have hmw : Hid (Mod [] w2 w3) := hm2.out.tr hm; have hfw : Hid (∀ k ∈ L3, w2.heap.size ≤ k) := fun k hk => Nat.le_trans hm2.out.size (hf k hk); have hvB := hid (hm.blk hv2.out (by simp)); clear hm hf; obtain ⟨a3, cap3, hv3, _⟩ := ho.val; subst hv3; have Ho3 := hid ho; clear ho)
              | (go_at_call 36; (with_reducible refine (without_c _ _ l (H.out.mod (hM2.out.tr hm3.out)) hl _ _ _ _ hb3.out (ha0.out.mod hm3.out)).mono ?_); rintro e w3 ⟨v3, L3, rfl, ho, hm, hf⟩; have hmw : Hid (Mod [] w2 w3) := hm3.out.tr hm; have hfw : Hid (∀ k ∈ L3, w2.heap.size ≤ k) := fun k hk => Nat.le_trans hm3.out.size (hf k hk); have hvB := hid (hm.blk hv3.out (by simp)); clear hm hf; obtain ⟨a3, cap3, hv3, _⟩ := ho.val; subst hv3; have Ho3 := hid ho; clear ho)
              | (refine step_append_rdl rfl (.tmp 49) (.tmp 51) 22 25 rfl Try.underlying22 elem_ver rfl (by decide) rfl Ho3.out rfl (hrd.out _ _ hvB.out) hone (by omega) (by omega) ?_; intro v5 w5 L5 g1 g2 g3; have hm5 : Hid (Mod [] w2 w5) := hmw.out.fresh g2.out hfw.out; have hf5 : Hid (∀ k ∈ L5, w2.heap.size ≤ k) := fun k hk => (g3.out k hk).elim (hfw.out k) (Nat.le_trans hmw.out.size); clear g2 g3)
              | (refine step_append_rdl rfl (.tmp 49) (.tmp 51) 22 25 rfl Try.underlying22 elem_ver rfl (by decide) rfl (Ho3.out.mod ((Mod.refl [] _).alloc _) (by simp)) rfl (hrd.out _ _ (Blk.new w3 _ _)) hone (by omega) (by omega) ?_; intro v5 w5 L5 g1 g2 g3; have hm5 : Hid (Mod [] w2 w5) := (hmw.out.alloc _).fresh g2.out hfw.out; have hf5 : Hid (∀ k ∈ L5, w2.heap.size ≤ k) := fun k hk => (g3.out k hk).elim (hfw.out k) (Nat.le_trans (hmw.out.alloc _).size); clear g2 g3)
              | fail)
          all_goals
            have G1 := hid g1.out
            obtain ⟨a5, cap5, hv5, _⟩ := g1.out.val
            subst hv5
            clear g1 hS hrd hone hwl
            go_wp2
            go_ret2
            rw [he.out]
            have hpl : putL l v = withoutB (tsP v.ts) l ++ [v] := by unfold putL; rw [if_pos he.out]
            refine ⟨_, L5, rfl, ?_, hM2.out.tr hm5.out, fun k hk => Nat.le_trans hM2.out.size (hf5.out k hk)⟩
            rw [hpl, vsC_append, List.length_append]
            exact G1.out

end Go.Proofs.Ytmdomihpohekiaa
