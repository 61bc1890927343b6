/- seen, Visible, Newest, Below. -/
import Derived.Test.YtmdomihpohekiaaV4
namespace Go.Proofs.Ytmdomihpohekiaa
set_option linter.unusedVariables false
set_option linter.unusedSimpArgs false
set_option linter.unusedSectionVars false
open Go.RowKit

/-- The five cells of a version's box. -/
theorem Blk.five {w : World} {b : Nat} {a0 a1 a2 a3 a4 : Value} {T : TypeId} (h : Blk w b #[a0, a1, a2, a3, a4] T) :
    w.cell? ⟨b, 0, none⟩ = some a0 ∧ w.cell? ⟨b, 1, none⟩ = some a1 ∧ w.cell? ⟨b, 2, none⟩ = some a2 ∧ w.cell? ⟨b, 3, none⟩ = some a3 ∧ w.cell? ⟨b, 4, none⟩ = some a4 ∧
    w.frozen? ⟨b, 0, none⟩ = false ∧ w.frozen? ⟨b, 1, none⟩ = false ∧ w.frozen? ⟨b, 2, none⟩ = false ∧ w.frozen? ⟨b, 3, none⟩ = false ∧ w.frozen? ⟨b, 4, none⟩ = false :=
  ⟨h.cell 0, h.cell 1, h.cell 2, h.cell 3, h.cell 4, h.free 0, h.free 1, h.free 2, h.free 3, h.free 4⟩
theorem Blk.set5 {w : World} {b : Nat} {a0 a1 a2 a3 a4 : Value} {T : TypeId} (h : Blk w b #[a0, a1, a2, a3, a4] T) (x0 x1 x2 x3 x4 : Value) :
    Blk (((((w.setCell ⟨b, 0, none⟩ x0).setCell ⟨b, 1, none⟩ x1).setCell ⟨b, 2, none⟩ x2).setCell ⟨b, 3, none⟩ x3).setCell ⟨b, 4, none⟩ x4) b #[x0, x1, x2, x3, x4] T :=
  ((((h.set 0 x0).set 1 x1).set 2 x2).set 3 x3).set 4 x4
theorem Mod.set5 {l : List Nat} {a w : World} (h : Mod l a w) {b : Nat} (hb : b ∈ l ∨ a.heap.size ≤ b) (x0 x1 x2 x3 x4 : Value) :
    Mod l a (((((w.setCell ⟨b, 0, none⟩ x0).setCell ⟨b, 1, none⟩ x1).setCell ⟨b, 2, none⟩ x2).setCell ⟨b, 3, none⟩ x3).setCell ⟨b, 4, none⟩ x4) :=
  ((((h.setCell (p := ⟨b, 0, none⟩) hb x0).setCell (p := ⟨b, 1, none⟩) hb x1).setCell (p := ⟨b, 2, none⟩) hb x2).setCell (p := ⟨b, 3, none⟩) hb x3).setCell (p := ⟨b, 4, none⟩) hb x4

theorem Asks.mod {w w' : World} {k : Nat} {caps : Array Value} {p : Vr → Bool} (h : Asks w k caps p) (hm : Mod [] w w') : Asks w' k caps p := ⟨h.1, fun W hW x => h.2 W (hm.tr hW) x⟩

def seenB (p : Vr → Bool) (l : List Vr) : Option Vr := if mayB l then lastB p l else none
/-- What a question for a version is answered. -/
def SeenSays (w : World) (o : Option Vr) (e : Ending) (w' : World) : Prop := e = .returned (.tuple #[vrV (o.getD v0), .bool o.isSome]) ∧ Mod [] w w'

set_option maxRecDepth 100000 in
set_option maxHeartbeats 1000000 in
theorem seen_c (w : World) (v : Value) (l : List Vr) (h : Lv w v l) (k : Nat) (caps : Array Value) (p : Vr → Bool) (hp : Asks w k caps p) :
    Calls Try.prog 29 #[v, .func (.func k) #[] caps] w (SeenSays w (seenB p l)) := by
  have H := hid h
  have HP := hid hp
  obtain ⟨a, cap, rfl, _, _⟩ := h
  clear hp
  have hM := hid ((Mod.refl [] w).alloc (.cells #[.int .u64 0, .int .u64 0, .bool false, .string ⟨#[]⟩, .bool false] 25))
  go_enter Try.func29, Try.ntmps29
  go_wp2_with fail
  refine (may_c _ _ l (H.out.mod hM.out)).mono ?_
  rintro e w1 ⟨rfl, hm⟩
  have hM1 := hid (hM.out.tr hm)
  have hB1 := hid (hm.blk (Blk.new w _ _) (by simp))
  clear hm hM
  cases hmay : mayB l
  · have hs : Hid (seenB p l = none) := by show _ = _; simp [seenB, hmay]
    obtain ⟨c0, c1, c2, c3, c4, f0, f1, f2, f3, f4⟩ := hB1.out.five
    clear hmay
    go_wp2
    obtain ⟨t0, t1, t2, t3, t4, _⟩ := (hB1.out.set5 (.int .u64 0) (.int .u64 0) (.bool false) (.string ⟨#[]⟩) (.bool false)).five
    exact bodyPost_ret (v := .tuple #[vrV v0, .bool false]) (by simp [results, Try.results29, go_sem, t0, t1, t2, t3, t4, vrV, v0]) rfl ⟨by rw [hs.out]; rfl, hM1.out.set5 (Or.inr (Nat.le_refl _)) _ _ _ _ _⟩
  · have hs : Hid (seenB p l = lastB p l) := by show _ = _; simp [seenB, hmay]
    clear hmay
    go_wp2_with fail
    refine (last_c _ _ l (H.out.mod hM1.out) k caps p (HP.out.mod hM1.out)).mono ?_
    rintro e w2 ⟨rfl, hm⟩
    have hM2 := hid (hM1.out.tr hm)
    have hB2 := hid (hm.blk hB1.out (by simp))
    clear hm
    obtain ⟨c0, c1, c2, c3, c4, f0, f1, f2, f3, f4⟩ := hB2.out.five
    obtain ⟨x, hx⟩ : ∃ x, (lastB p l).getD v0 = x := ⟨_, rfl⟩
    obtain ⟨q, hq⟩ : ∃ q, (lastB p l).isSome = q := ⟨_, rfl⟩
    rw [hx, hq]
    have Hx := hid hx
    have Hq := hid hq
    clear hx hq
    simp only [vrV]
    go_wp2
    obtain ⟨t0, t1, t2, t3, t4, _⟩ := (hB2.out.set5 (.int .u64 x.ts) (.int .u64 x.ln) (.bool x.dl) (.string x.vl) (.bool x.ak)).five
    exact bodyPost_ret (v := .tuple #[vrV x, .bool q]) (by simp [results, Try.results29, go_sem, t0, t1, t2, t3, t4, vrV]) rfl ⟨by rw [hs.out, Hx.out, Hq.out], hM2.out.set5 (Or.inr (Nat.le_refl _)) _ _ _ _ _⟩

/-! The questions. -/
def visP (t : Nat) (x : Vr) : Bool := decide (x.ts ≤ t)
def belP (t : Nat) (x : Vr) : Bool := decide (x.ts < t)
def logP (t : Nat) (x : Vr) : Bool := decide (x.ts ≤ t) && decide (0 < x.ln)

set_option maxRecDepth 100000 in
theorem vis_asks (w : World) (b t : Nat) (h : Blk w b #[.int .u64 t] 23) : Asks w 30 #[.pointer (some ⟨b, 0, none⟩)] (visP t) := by
  refine ⟨enters_of Try.func30 (by kernel_rfl) rfl, fun W hW x => ?_⟩
  have c := (hW.blk h (by simp)).cell 0
  simp at c
  have hl := (hW.blk h (by simp)).lt
  unfold vrV
  show Calls Try.prog _ #[_, _] _ _
  go_enter Try.func30, Try.ntmps30
  go_wp2
  go_ret
  exact ⟨ret_bool (by simp [visP]), (Mod.refl [] W).alloc _⟩

set_option maxRecDepth 100000 in
theorem new_asks (w : World) : Asks w 32 #[] (fun _ => true) := by
  refine ⟨enters_of Try.func32 (by kernel_rfl) rfl, fun W hW x => ?_⟩
  unfold vrV
  show Calls Try.prog _ #[_] _ _
  go_enter Try.func32, Try.ntmps32
  go_wp2
  go_ret
  exact ⟨rfl, (Mod.refl [] W).alloc _⟩

set_option maxRecDepth 100000 in
theorem bel_asks (w : World) (b t : Nat) (h : Blk w b #[.int .u64 t] 23) : Asks w 33 #[.pointer (some ⟨b, 0, none⟩)] (belP t) := by
  refine ⟨enters_of Try.func33 (by kernel_rfl) rfl, fun W hW x => ?_⟩
  have c := (hW.blk h (by simp)).cell 0
  simp at c
  have hl := (hW.blk h (by simp)).lt
  unfold vrV
  show Calls Try.prog _ #[_, _] _ _
  go_enter Try.func33, Try.ntmps33
  go_wp2
  go_ret
  exact ⟨ret_bool (by simp [belP]), (Mod.refl [] W).alloc _⟩

set_option maxRecDepth 100000 in
theorem log_asks (w : World) (b t : Nat) (h : Blk w b #[.int .u64 t] 23) : Asks w 43 #[.pointer (some ⟨b, 0, none⟩)] (logP t) := by
  refine ⟨enters_of Try.func43 (by kernel_rfl) rfl, fun W hW x => ?_⟩
  have c := (hW.blk h (by simp)).cell 0
  simp at c
  have hl := (hW.blk h (by simp)).lt
  unfold vrV
  show Calls Try.prog _ #[_, _] _ _
  by_cases h1 : x.ts ≤ t
  · go_enter Try.func43, Try.ntmps43
    go_wp2
    go_ret
    exact ⟨ret_bool (by simp [logP, h1]), (Mod.refl [] W).alloc _⟩
  · go_enter Try.func43, Try.ntmps43
    go_wp2
    go_ret
    exact ⟨ret_bool (by simp [logP, h1]), (Mod.refl [] W).alloc _⟩

set_option maxRecDepth 100000 in
theorem visible_c (w : World) (v : Value) (l : List Vr) (t : Nat) (h : Lv w v l) :
    Calls Try.prog 8 #[v, .int .u64 t] w (SeenSays w (seenB (visP t) l)) := by
  have H := hid h
  obtain ⟨a, cap, rfl, _, _⟩ := h
  have hM := hid (((Mod.refl [] w).alloc (.cells #[.int .u64 t] 23)).alloc (.cells #[.int .u64 0, .int .u64 0, .bool false, .string ⟨#[]⟩, .bool false] 25))
  have hA := hid ((vis_asks _ _ t (Blk.new w #[.int .u64 t] 23)).mod ((Mod.refl [] _).alloc (.cells #[.int .u64 0, .int .u64 0, .bool false, .string ⟨#[]⟩, .bool false] 25)))
  have hB := hid (Blk.new (w.alloc (.cells #[.int .u64 t] 23)) #[.int .u64 0, .int .u64 0, .bool false, .string ⟨#[]⟩, .bool false] 25)
  rw [World.size_alloc] at hB
  go_enter Try.func8, Try.ntmps8
  go_wp2_with fail
  refine (seen_c _ _ l (H.out.mod hM.out) _ _ _ hA.out).mono ?_
  rintro e w2 ⟨rfl, hm⟩
  have hM2 := hid (hM.out.tr hm)
  have hB2 := hid (hm.blk hB.out (by simp))
  clear hm hA hM hB
  obtain ⟨c0, c1, c2, c3, c4, f0, f1, f2, f3, f4⟩ := hB2.out.five
  obtain ⟨x, hx⟩ : ∃ x, (seenB (visP t) l).getD v0 = x := ⟨_, rfl⟩
  obtain ⟨q, hq⟩ : ∃ q, (seenB (visP t) l).isSome = q := ⟨_, rfl⟩
  rw [hx, hq]
  have Hx := hid hx
  have Hq := hid hq
  clear hx hq
  simp only [vrV]
  go_wp2
  obtain ⟨t0, t1, t2, t3, t4, _⟩ := (hB2.out.set5 (.int .u64 x.ts) (.int .u64 x.ln) (.bool x.dl) (.string x.vl) (.bool x.ak)).five
  exact bodyPost_ret (v := .tuple #[vrV x, .bool q]) (by simp [results, Try.results8, go_sem, t0, t1, t2, t3, t4, vrV]) rfl ⟨by rw [Hx.out, Hq.out], hM2.out.set5 (Or.inr (by omega)) _ _ _ _ _⟩

set_option maxRecDepth 100000 in
theorem below_c (w : World) (v : Value) (l : List Vr) (t : Nat) (h : Lv w v l) :
    Calls Try.prog 12 #[v, .int .u64 t] w (SeenSays w (seenB (belP t) l)) := by
  have H := hid h
  obtain ⟨a, cap, rfl, _, _⟩ := h
  have hM := hid (((Mod.refl [] w).alloc (.cells #[.int .u64 t] 23)).alloc (.cells #[.int .u64 0, .int .u64 0, .bool false, .string ⟨#[]⟩, .bool false] 25))
  have hA := hid ((bel_asks _ _ t (Blk.new w #[.int .u64 t] 23)).mod ((Mod.refl [] _).alloc (.cells #[.int .u64 0, .int .u64 0, .bool false, .string ⟨#[]⟩, .bool false] 25)))
  have hB := hid (Blk.new (w.alloc (.cells #[.int .u64 t] 23)) #[.int .u64 0, .int .u64 0, .bool false, .string ⟨#[]⟩, .bool false] 25)
  rw [World.size_alloc] at hB
  go_enter Try.func12, Try.ntmps12
  go_wp2_with fail
  refine (seen_c _ _ l (H.out.mod hM.out) _ _ _ hA.out).mono ?_
  rintro e w2 ⟨rfl, hm⟩
  have hM2 := hid (hM.out.tr hm)
  have hB2 := hid (hm.blk hB.out (by simp))
  clear hm hA hM hB
  obtain ⟨c0, c1, c2, c3, c4, f0, f1, f2, f3, f4⟩ := hB2.out.five
  obtain ⟨x, hx⟩ : ∃ x, (seenB (belP t) l).getD v0 = x := ⟨_, rfl⟩
  obtain ⟨q, hq⟩ : ∃ q, (seenB (belP t) l).isSome = q := ⟨_, rfl⟩
  rw [hx, hq]
  have Hx := hid hx
  have Hq := hid hq
  clear hx hq
  simp only [vrV]
  go_wp2
  obtain ⟨t0, t1, t2, t3, t4, _⟩ := (hB2.out.set5 (.int .u64 x.ts) (.int .u64 x.ln) (.bool x.dl) (.string x.vl) (.bool x.ak)).five
  exact bodyPost_ret (v := .tuple #[vrV x, .bool q]) (by simp [results, Try.results12, go_sem, t0, t1, t2, t3, t4, vrV]) rfl ⟨by rw [Hx.out, Hq.out], hM2.out.set5 (Or.inr (by omega)) _ _ _ _ _⟩

set_option maxRecDepth 100000 in
theorem newest_c (w : World) (v : Value) (l : List Vr) (h : Lv w v l) :
    Calls Try.prog 10 #[v] w (SeenSays w (seenB (fun _ => true) l)) := by
  have H := hid h
  obtain ⟨a, cap, rfl, _, _⟩ := h
  have hM := hid ((Mod.refl [] w).alloc (.cells #[.int .u64 0, .int .u64 0, .bool false, .string ⟨#[]⟩, .bool false] 25))
  have hA := hid (new_asks (w.alloc (.cells #[.int .u64 0, .int .u64 0, .bool false, .string ⟨#[]⟩, .bool false] 25)))
  have hB := hid (Blk.new w #[.int .u64 0, .int .u64 0, .bool false, .string ⟨#[]⟩, .bool false] 25)
  go_enter Try.func10, Try.ntmps10
  go_wp2_with fail
  refine (seen_c _ _ l (H.out.mod hM.out) _ _ _ hA.out).mono ?_
  rintro e w2 ⟨rfl, hm⟩
  have hM2 := hid (hM.out.tr hm)
  have hB2 := hid (hm.blk hB.out (by simp))
  clear hm hA hM hB
  obtain ⟨c0, c1, c2, c3, c4, f0, f1, f2, f3, f4⟩ := hB2.out.five
  obtain ⟨x, hx⟩ : ∃ x, (seenB (fun _ => true) l).getD v0 = x := ⟨_, rfl⟩
  obtain ⟨q, hq⟩ : ∃ q, (seenB (fun _ => true) l).isSome = q := ⟨_, rfl⟩
  rw [hx, hq]
  have Hx := hid hx
  have Hq := hid hq
  clear hx hq
  simp only [vrV]
  go_wp2
  obtain ⟨t0, t1, t2, t3, t4, _⟩ := (hB2.out.set5 (.int .u64 x.ts) (.int .u64 x.ln) (.bool x.dl) (.string x.vl) (.bool x.ak)).five
  exact bodyPost_ret (v := .tuple #[vrV x, .bool q]) (by simp [results, Try.results10, go_sem, t0, t1, t2, t3, t4, vrV]) rfl ⟨by rw [Hx.out, Hq.out], hM2.out.set5 (Or.inr (by omega)) _ _ _ _ _⟩

end Go.Proofs.Ytmdomihpohekiaa
