/- last: the last version of which something is so. -/
import Derived.Test.YtmdomihpohekiaaV3
namespace Go.Proofs.Ytmdomihpohekiaa
set_option linter.unusedVariables false
set_option linter.unusedSimpArgs false
set_option linter.unusedSectionVars false
open Go.RowKit Go.Shelf
attribute [local go_sem] Oper.semAt_some

/-- A function value that asks p of a version, from world w0 on. -/
def Asks (w0 : World) (k : Nat) (caps : Array Value) (p : Vr → Bool) : Prop :=
  (∀ args w, (callFunc k args).run Try.prog w = .ok (.enter k args) w) ∧
  ∀ W, Mod [] w0 W → ∀ x : Vr, Calls Try.prog k (#[vrV x] ++ caps) W fun e w' => e = .returned (.bool (p x)) ∧ Mod [] W w'

def lastB (p : Vr → Bool) (l : List Vr) : Option Vr := l.reverse.find? p

theorem Blk.grown {w w' : World} {row : Option Nat} {b : Nat} {c : Array Value} {T : TypeId} (h : Blk w b c T) (hg : w.grownBy w' row) (hr : ∀ r, row = some r → ∃ o : Obj, w.heap[r]? = some o ∧ o.isCells = false) : Blk w' b c T := by
  have hlt := h.lt
  unfold Blk at h ⊢
  refine (hg.block b hlt (fun e => ?_)).trans h
  obtain ⟨o, ho, hc⟩ := hr b e.symm
  rw [h] at ho
  cases ho
  cases hc
theorem Mod.keeps {l : List Nat} {w w' : World} {B : Nat} (h : Mod l w w') (hl : ∀ k ∈ l, ∃ c T, Blk w k c T) : KeepsFrom B w w' :=
  ⟨h.size, fun k o _ hk ho => by
    refine (h.block k (Array.getElem?_eq_some_iff.1 hk).1 (fun hm => ?_)).trans hk
    obtain ⟨c, T, hb⟩ := hl k hm
    unfold Blk at hb
    rw [hb] at hk
    cases hk
    cases ho⟩
theorem bkw_find (p : Vr → Bool) (l : List Vr) : ∀ m k, k + m = l.length → (∀ x ∈ bkw l k, p x.2 = false) → (l.drop k).reverse.find? p = none := by
  intro m
  induction m with
  | zero => intro k hk _; rw [List.drop_of_length_le (by omega)]; rfl
  | succ m ih =>
    intro k hk hall
    have hx : l[k]? = some l[k] := List.getElem?_eq_getElem (by omega)
    rw [bkw_step l k _ hx] at hall
    have h1 := ih (k + 1) (by omega) (fun x hx => hall x (by simp [hx]))
    have h2 : p l[k] = false := hall (k, l[k]) (by simp)
    rw [← List.getElem_cons_drop (by omega), List.reverse_cons, List.find?_append, h1]
    simp [h2]
theorem last_none (p : Vr → Bool) (l : List Vr) (h : ∀ x ∈ bkw l 0, p x.2 = false) : lastB p l = none := by
  have := bkw_find p l l.length 0 (by omega) h
  simpa [lastB] using this
theorem last_some (p : Vr → Bool) (l : List Vr) (k : Nat) (x : Vr) (hx : l[k]? = some x) (h : ∀ y ∈ bkw l (k + 1), p y.2 = false) (hp : p x = true) : lastB p l = some x := by
  have hk := (List.getElem?_eq_some_iff.1 hx).1
  have h1 := bkw_find p l (l.length - (k + 1)) (k + 1) (by omega) h
  have e : l = l.take k ++ x :: l.drop (k + 1) := by
    obtain ⟨_, rfl⟩ := List.getElem?_eq_some_iff.1 hx
    rw [List.getElem_cons_drop hk, List.take_append_drop]
  unfold lastB
  rw [e, List.reverse_append, List.reverse_cons, List.append_assoc, List.find?_append, h1]
  simp [hp]

set_option maxRecDepth 100000 in
set_option maxHeartbeats 2000000 in
theorem last_c (w : World) (v : Value) (l : List Vr) (h : Lv w v l) (k : Nat) (caps : Array Value) (p : Vr → Bool) (hp : Asks w k caps p) :
    Calls Try.prog 45 #[v, .func (.func k) #[] caps] w fun e w' => e = .returned (.tuple #[vrV ((lastB p l).getD v0), .bool (lastB p l).isSome]) ∧ Mod [] w w' := by
  have HL := hid h
  have HP := hid hp
  obtain ⟨a, cap, rfl, _, hlen⟩ := h
  have enter := hp.1
  clear hp
  refine (callsIn_wide (n := 3)).1 ?_
  refine callsIn_of_wp_marks Try.func45 rfl trivial ?_ rfl
  simp only [Try.ntmps45, List.size_toArray, List.length_cons, List.length_nil, Nat.reduceAdd, Nat.reduceSub, Array.replicate_succ, Array.replicate_zero, List.push_toArray, List.append_toArray, List.nil_append, List.cons_append]
  gi_wp2_with (refine ⟨trivial, ?_⟩; gi_at_call 47; refine (backward_in Fence.wide 2 trivial rfl _ _ _ _).mono ?_; rintro e w' ⟨rfl, rfl⟩)
  have hb1 := Blk.new w #[.func (.func k) #[] caps] 46
  have hb2 := Blk.new (w.alloc (.cells #[.func (.func k) #[] caps] 46)) #[.int .u64 0, .int .u64 0, .bool false, .string ⟨#[]⟩, .bool false] 25
  have hb3 := Blk.new ((w.alloc (.cells #[.func (.func k) #[] caps] 46)).alloc (.cells #[.int .u64 0, .int .u64 0, .bool false, .string ⟨#[]⟩, .bool false] 25)) #[.bool false] 4
  have hb4 := Blk.new (((w.alloc (.cells #[.func (.func k) #[] caps] 46)).alloc (.cells #[.int .u64 0, .int .u64 0, .bool false, .string ⟨#[]⟩, .bool false] 25)).alloc (.cells #[.bool false] 4)) #[.slice a l.length cap] 22
  have hm0 := ((((Mod.refl [] w).alloc (.cells #[.func (.func k) #[] caps] 46)).alloc (.cells #[.int .u64 0, .int .u64 0, .bool false, .string ⟨#[]⟩, .bool false] 25)).alloc (.cells #[.bool false] 4)).alloc (.cells #[.slice a l.length cap] 22)
  replace hb1 := ((hb1.alloc (.cells #[.int .u64 0, .int .u64 0, .bool false, .string ⟨#[]⟩, .bool false] 25)).alloc (.cells #[.bool false] 4)).alloc (.cells #[.slice a l.length cap] 22)
  replace hb2 := (hb2.alloc (.cells #[.bool false] 4)).alloc (.cells #[.slice a l.length cap] 22)
  replace hb3 := hb3.alloc (.cells #[.slice a l.length cap] 22)
  simp only [World.size_alloc] at hb1 hb2 hb3 hb4
  have hsz : ((((w.alloc (.cells #[.func (.func k) #[] caps] 46)).alloc (.cells #[.int .u64 0, .int .u64 0, .bool false, .string ⟨#[]⟩, .bool false] 25)).alloc (.cells #[.bool false] 4)).alloc (.cells #[.slice a l.length cap] 22)).heap.size = w.heap.size + 4 := by simp
  generalize ((((w.alloc (.cells #[.func (.func k) #[] caps] 46)).alloc (.cells #[.int .u64 0, .int .u64 0, .bool false, .string ⟨#[]⟩, .bool false] 25)).alloc (.cells #[.bool false] 4)).alloc (.cells #[.slice a l.length cap] 22)) = W0 at *
  generalize hBw : w.heap.size = B at *
  have HBw := hid hBw
  clear hBw
  have hL : ∀ W', Below W0.heap.size W0 W' → Lv W' (.slice a l.length cap) l := fun W' hB => (HL.out.mod hm0).mod (Mod.of_below hB)
  refine wpIn_rangeFunc_ownH rfl (by omega) (gf := 49) (lb := #[.pointer (some ⟨B + 1 + 1 + 1, 0, none⟩)]) rfl trivial (enters_of Try.func49 (by kernel_rfl) rfl)
    (back_stops Fence.wide (3 - 1) trivial rfl (by omega) (B + 1 + 1 + 1) W0.heap.size a cap l W0 (by omega) (Nat.le_refl _) (hb4.cell 0) hL) belowK_t (belowK_b (Nat.le_refl _)) (Below.refl _ _) (fun _ => rfl)
    (fun pre W => (∀ x ∈ pre, p x.2 = false) ∧ Mod [] W0 W)
    (fun c pre W => c = .ret ∧ ∃ ini x, pre = ini ++ [x] ∧ (∀ y ∈ ini, p y.2 = false) ∧ p x.2 = true ∧ Mod [B + 1, B + 1 + 1] W0 W ∧ Blk W (B + 1) (vrC x.2).toArray 25 ∧ Blk W (B + 1 + 1) #[.bool true] 4)
    ?own ?ownx ⟨by simp, Mod.refl _ _⟩
    (fun x a' W => ∃ Bx, W0.heap.size ≤ Bx ∧ Blk W Bx (vrC x.2).toArray 25 ∧ a' = { tmps := #[.slice a l.length cap, .func (.func k) #[] caps, undef, .pointer (some ⟨B, 0, none⟩), .pointer (some ⟨B + 1, 0, none⟩), .pointer (some ⟨B + 1 + 1, 0, none⟩), undef, .pointer (some ⟨Bx, 0, none⟩), .slice a l.length cap, .func (.func 49) #[] #[.pointer (some ⟨B + 1 + 1 + 1, 0, none⟩)], .int .i64 (x.1 : Int), vrV x.2, undef, undef, undef, undef, undef], defers := [] })
    ?ax ?assign ?body ?done ?stop
  case own =>
    intro pre X Y row hs hg hr
    exact ⟨hs.1, hs.2.grown hg (fun r e => Or.inr (by have := (hr r e).1; omega))⟩
  case ownx =>
    intro c pre X Y row hs hg hr
    obtain ⟨hc, ini, x, e1, e2, e3, hm, q1, q2⟩ := hs
    exact ⟨hc, ini, x, e1, e2, e3, hm.grown hg (fun r e => Or.inr (by have := (hr r e).1; omega)), q1.grown hg (fun r e => (hr r e).2), q2.grown hg (fun r e => (hr r e).2)⟩
  case ax =>
    rintro x a' _ X Y row ⟨Bx, h1, h2, h3⟩ hg hr
    exact ⟨Bx, h1, h2.grown hg (fun r e => (hr r e).2), h3⟩
  case assign =>
    rintro u pre x W K hi hK
    have hi2 := hid hi
    clear hi
    simp only [vrV]
    gi_wp2
    refine hK _ _ ((Mod.refl [] W).alloc _ |>.keeps (by simp)) ((Below.refl _ W).alloc (by have := hi2.out.2.size; omega) _) ⟨hi2.out.1, hi2.out.2.alloc _⟩ ⟨W.heap.size, by have := hi2.out.2.size; omega, Blk.new W _ _, rfl⟩
  case body =>
    rintro u pre ⟨i, x⟩ a' W hu _ ⟨hpre, hM⟩ ⟨Bx, hBx, hx, rfl⟩ hlt
    dsimp only at hx
    have q1 := (hM.blk hb1 (by simp)).cell 0
    simp at q1
    have x0 := hx.cell 0
    have x1 := hx.cell 1
    have x2 := hx.cell 2
    have x3 := hx.cell 3
    have x4 := hx.cell 4
    simp [vrC] at x0 x1 x2 x3 x4
    have hP2 := hid (HP.out.2 W (hm0.tr hM) x)
    have hM2 := hid hM
    have hpre2 := hid hpre
    have HX := hid hx
    have HB1 := hid hb1
    have HB2 := hid hb2
    have HB3 := hid hb3
    clear hM hpre hx hb1 hb2 hb3 hb4 hm0 hL hlt
    gi_wp2_with fail
    refine ⟨trivial, ?_⟩
    refine (CallsIn.inRound u (callsIn_wide.2 hP2.out)).mono ?_
    rintro e w3 ⟨rfl, hm⟩
    have HM3 := hid hm
    have y0 := (hm.blk HX.out (by simp)).cell 0
    have y1 := (hm.blk HX.out (by simp)).cell 1
    have y2 := (hm.blk HX.out (by simp)).cell 2
    have y3 := (hm.blk HX.out (by simp)).cell 3
    have y4 := (hm.blk HX.out (by simp)).cell 4
    simp [vrC] at y0 y1 y2 y3 y4
    have hM3 := hM2.out.tr hm
    have g2 := hM3.blk HB2.out (by simp)
    have g3 := hM3.blk HB3.out (by simp)
    have G2 := hid g2
    have G3 := hid g3
    have z0 := g2.cell 0
    have z1 := g2.cell 1
    have z2 := g2.cell 2
    have z3 := g2.cell 3
    have z4 := g2.cell 4
    have z5 := g3.cell 0
    have f0 := g2.free 0
    have f1 := g2.free 1
    have f2 := g2.free 2
    have f3 := g2.free 3
    have f4 := g2.free 4
    have f5 := g3.free 0
    simp at z0 z1 z2 z3 z4 z5
    have hM4 := hid hM3
    clear hm hM3 g2 g3 hP2 x0 x1 x2 x3 x4
    cases hpx : p x
    · have Hpx := hid hpx
      clear hpx
      gi_wp2
      refine ⟨HM3.out.keeps (by simp), Below.mono (Mod.below HM3.out (Nat.le_refl _) (by simp)) (by have := hM2.out.size; omega), ?_, hM4.out⟩
      intro y hy
      rcases List.mem_append.1 hy with h | h
      · exact hpre2.out y h
      · simp at h; subst h; exact Hpx.out
    · have Hpx := hid hpx
      clear hpx
      gi_wp2
      have hm5 : Mod [B + 1, B + 1 + 1] W _ := ((((((HM3.out.mono (m := [B + 1, B + 1 + 1]) (by simp)).setCell (p := ⟨B + 1, 0, none⟩) (by simp) (.int .u64 x.ts)).setCell (p := ⟨B + 1, 1, none⟩) (by simp) (.int .u64 x.ln)).setCell (p := ⟨B + 1, 2, none⟩) (by simp) (.bool x.dl)).setCell (p := ⟨B + 1, 3, none⟩) (by simp) (.string x.vl)).setCell (p := ⟨B + 1, 4, none⟩) (by simp) (.bool x.ak)).setCell (p := ⟨B + 1 + 1, 0, none⟩) (by simp) (.bool true)
      refine ⟨hm5.keeps (by
        intro k hk
        simp at hk
        rcases hk with rfl | rfl
        · exact ⟨_, _, hM2.out.blk HB2.out (by simp)⟩
        · exact ⟨_, _, hM2.out.blk HB3.out (by simp)⟩), rfl, pre, (i, x), rfl, hpre2.out, Hpx.out, (hM2.out.mono (by simp)).tr hm5, ?_, ?_⟩
      · exact ((((((G2.out.set 0 _).set 1 _).set 2 _).set 3 _).set 4 _).other (by simp) _)
      · exact ((((((G3.out.other (by simp) _).other (by simp) _).other (by simp) _).other (by simp) _).other (by simp) _).set 0 _)
  case done =>
    rintro D ys W hD rfl ⟨hne, hM⟩ hK
    have hne2 := hid (last_none p l hne)
    have HM := hid hM
    have g2 := hM.blk hb2 (by simp)
    have g3 := hM.blk hb3 (by simp)
    have G2 := hid g2
    have G3 := hid g3
    have z0 := g2.cell 0
    have z1 := g2.cell 1
    have z2 := g2.cell 2
    have z3 := g2.cell 3
    have z4 := g2.cell 4
    have z5 := g3.cell 0
    have f0 := g2.free 0
    have f1 := g2.free 1
    have f2 := g2.free 2
    have f3 := g2.free 3
    have f4 := g2.free 4
    have f5 := g3.free 0
    simp at z0 z1 z2 z3 z4 z5
    have HK := hid hK
    clear hne hM g2 g3 hK hb1 hb2 hb3 hb4 hL
    gi_wp2
    have hm5 : Mod [B + 1, B + 1 + 1] W _ := (((((((Mod.refl [] W).mono (m := [B + 1, B + 1 + 1]) (by simp)).setCell (p := ⟨B + 1, 0, none⟩) (by simp) (.int .u64 0)).setCell (p := ⟨B + 1, 1, none⟩) (by simp) (.int .u64 0)).setCell (p := ⟨B + 1, 2, none⟩) (by simp) (.bool false)).setCell (p := ⟨B + 1, 3, none⟩) (by simp) (.string ⟨#[]⟩)).setCell (p := ⟨B + 1, 4, none⟩) (by simp) (.bool false)).setCell (p := ⟨B + 1 + 1, 0, none⟩) (by simp) (.bool false)
    have r2 := ((((((G2.out.set 0 (.int .u64 0)).set 1 (.int .u64 0)).set 2 (.bool false)).set 3 (.string ⟨#[]⟩)).set 4 (.bool false)).other (a := ⟨B + 1 + 1, 0, none⟩) (by simp) (.bool false))
    have r3 := ((((((G3.out.other (a := ⟨B + 1, 0, none⟩) (by simp) (.int .u64 0)).other (a := ⟨B + 1, 1, none⟩) (by simp) (.int .u64 0)).other (a := ⟨B + 1, 2, none⟩) (by simp) (.bool false)).other (a := ⟨B + 1, 3, none⟩) (by simp) (.string ⟨#[]⟩)).other (a := ⟨B + 1, 4, none⟩) (by simp) (.bool false)).set 0 (.bool false))
    generalize (((((((W.setCell ⟨B + 1, 0, none⟩ (.int .u64 0)).setCell ⟨B + 1, 1, none⟩ (.int .u64 0)).setCell ⟨B + 1, 2, none⟩ (.bool false)).setCell ⟨B + 1, 3, none⟩ (.string ⟨#[]⟩)).setCell ⟨B + 1, 4, none⟩ (.bool false)).setCell ⟨B + 1 + 1, 0, none⟩ (.bool false))) = W5 at *
    have hDlt := (Array.getElem?_eq_some_iff.1 HK.out).1
    have hK5 : W5.heap[D]? = some (.deferred (some [])) := (hm5.block D hDlt (by simp; omega)).trans HK.out
    refine ⟨by simp, .inl ⟨_, _, rfl, run_takeDeferred hK5, ?_⟩⟩
    have hg := grownBy_putObj' W5 D (.deferred none)
    have hg1 : ∀ r, some D = some r → ∃ o : Obj, W5.heap[r]? = some o ∧ o.isCells = false := by
      intro r e; cases e; exact ⟨_, hK5, rfl⟩
    have s2 := r2.grown hg hg1
    have s3 := r3.grown hg hg1
    have t0 := s2.cell 0
    have t1 := s2.cell 1
    have t2 := s2.cell 2
    have t3 := s2.cell 3
    have t4 := s2.cell 4
    have t5 := s3.cell 0
    simp at t0 t1 t2 t3 t4 t5
    rw [hne2.out]
    have hb0 := HBw.out
    refine ⟨.tuple #[vrV v0, .bool false], ?_, rfl, ?_⟩
    · simp [results, Try.f45, go_sem, t0, t1, t2, t3, t4, t5, vrV, v0]
    · exact ((hm0.tr HM.out).trans hm5 (m := []) (by simp) (by intro y hy hlt; simp at hy; omega)).grown hg (fun r e => by cases e; right; omega)
  case stop =>
    rintro D c pre W hD ⟨j, hj, rfl⟩ ⟨rfl, ini, ⟨i, x⟩, e1, e2, e3, hm5, r2, r3⟩ hK
    have hls : Hid (lastB p l = some x) := by
      rcases Nat.lt_or_ge j l.length with hlt | hge
      · obtain ⟨y, hy⟩ : ∃ y, l[j]? = some y := ⟨_, List.getElem?_eq_getElem hlt⟩
        rw [bkw_step l j y hy] at e1
        obtain ⟨e4, e5⟩ := List.append_inj' e1 rfl
        simp only [List.cons.injEq, Prod.mk.injEq, and_true] at e5
        obtain ⟨rfl, rfl⟩ := e5
        subst e4
        exact last_some p l j y hy e2 e3
      · obtain rfl : j = l.length := by omega
        rw [bkw_all] at e1
        simp at e1
    dsimp only at r2
    have HK := hid hK
    have R2 := hid r2
    have R3 := hid r3
    have H5 := hid hm5
    clear hK r2 r3 hm5 e1 e2 e3 hb1 hb2 hb3 hb4 hL
    gi_wp2
    refine ⟨by simp, .inl ⟨_, _, rfl, run_takeDeferred HK.out, ?_⟩⟩
    have hg := grownBy_putObj' W D (.deferred none)
    have hg1 : ∀ r, some D = some r → ∃ o : Obj, W.heap[r]? = some o ∧ o.isCells = false := by
      intro r e; cases e; exact ⟨_, HK.out, rfl⟩
    have s2 := R2.out.grown hg hg1
    have s3 := R3.out.grown hg hg1
    have t0 := s2.cell 0
    have t1 := s2.cell 1
    have t2 := s2.cell 2
    have t3 := s2.cell 3
    have t4 := s2.cell 4
    have t5 := s3.cell 0
    simp [vrC] at t0 t1 t2 t3 t4 t5
    rw [hls.out]
    have hb0 := HBw.out
    refine ⟨.tuple #[vrV x, .bool true], ?_, rfl, ?_⟩
    · simp [results, Try.f45, go_sem, t0, t1, t2, t3, t4, t5, vrV]
    · exact (hm0.trans H5.out (m := []) (by simp) (by intro y hy hlt; simp at hy; omega)).grown hg (fun r e => by cases e; right; omega)

end Go.Proofs.Ytmdomihpohekiaa
