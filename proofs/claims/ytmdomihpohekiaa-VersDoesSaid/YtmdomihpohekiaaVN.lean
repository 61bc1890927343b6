/- The reference: Visible, Newest, Below. -/
import Derived.Test.YtmdomihpohekiaaVM
namespace Go.Proofs.Ytmdomihpohekiaa
set_option linter.unusedVariables false
set_option linter.unusedSimpArgs false
set_option linter.unusedSectionVars false
open Go.RowKit

theorem lastB_take (p : Vr → Bool) (l : List Vr) (k : Nat) (x : Vr) (hx : l[k]? = some x) : lastB p (l.take (k + 1)) = if p x then some x else lastB p (l.take k) := by
  unfold lastB
  rw [List.take_add_one, hx]
  cases h : p x <;> simp [h]
/-- What is seen of the first k. -/
def upB (p : Vr → Bool) (l : List Vr) (k : Nat) : Option Vr := if mayB l then lastB p (l.take k) else none
theorem upB_zero (p : Vr → Bool) (l : List Vr) : upB p l 0 = none := by simp [upB, lastB]
theorem upB_yes (p : Vr → Bool) (l : List Vr) (k : Nat) (x : Vr) (hx : l[k]? = some x) (h : mayB l = true) (hp : p x = true) : upB p l (k + 1) = some x := by
  simp [upB, h, lastB_take p l k x hx, hp]
theorem upB_no (p : Vr → Bool) (l : List Vr) (k : Nat) (x : Vr) (hx : l[k]? = some x) (hp : p x = false) : upB p l (k + 1) = upB p l k := by
  simp [upB, lastB_take p l k x hx, hp]
theorem upB_all (p : Vr → Bool) (l : List Vr) : upB p l l.length = seenB p l := by
  simp [upB, seenB]
theorem upB_not (p : Vr → Bool) (l : List Vr) (k : Nat) (h : mayB l = false) : upB p l k = seenB p l := by
  simp [upB, seenB, h]

set_option maxRecDepth 100000 in
set_option maxHeartbeats 4000000 in
theorem rvisible_c (w : World) (v : Value) (l : List Vr) (t : Nat) (h : Lv w v l) :
    Calls Try.prog 9 #[v, .int .u64 t] w (SeenSays w (seenB (visP t) l)) := by
  have H := hid h
  obtain ⟨a, cap, rfl, _, hlen⟩ := h
  have hM := hid (((Mod.refl [] w).alloc (.cells #[.int .u64 0, .int .u64 0, .bool false, .string ⟨#[]⟩, .bool false] 25)).alloc (.cells #[.int .u64 0, .int .u64 0, .bool false, .string ⟨#[]⟩, .bool false] 25))
  have hA := hid ((Blk.new w #[.int .u64 0, .int .u64 0, .bool false, .string ⟨#[]⟩, .bool false] 25).alloc (.cells #[.int .u64 0, .int .u64 0, .bool false, .string ⟨#[]⟩, .bool false] 25))
  have hB := Blk.new (w.alloc (.cells #[.int .u64 0, .int .u64 0, .bool false, .string ⟨#[]⟩, .bool false] 25)) #[.int .u64 0, .int .u64 0, .bool false, .string ⟨#[]⟩, .bool false] 25
  rw [World.size_alloc] at hB
  have HB := hid hB
  clear hB
  go_enter Try.func9, Try.ntmps9
  go_wp2
  go_loopg [7, 8] l.length (fun g q i wr => ∃ (k : Nat) (o : Option Vr), i = .int .i64 k ∧ q = .bool o.isSome ∧ k + g = l.length ∧ Hid (o = upB (visP t) l k) ∧ Hid (Blk wr w.heap.size #[.int .u64 0, .int .u64 0, .bool false, .string ⟨#[]⟩, .bool false] 25) ∧ Hid (Blk wr (w.heap.size + 1) (vrC (o.getD v0)).toArray 25) ∧ Hid (Mod [] w wr))
  · exact ⟨0, none, rfl, rfl, by omega, (upB_zero _ _).symm, hA.out, HB.out, hM.out⟩
  · obtain ⟨k, o, rfl, rfl, hk, hO, hA, hB, hM⟩ := hrel
    by_cases hlt : k < l.length
    · obtain ⟨x, hx⟩ : ∃ x, l[k]? = some x := ⟨_, List.getElem?_eq_getElem hlt⟩
      have Hx := hid hx
      clear hx
      have hki : (k : Int) < (l.length : Int) := by omega
      go_wp2_with fail
      refine (rmay_c _ _ l (H.out.mod hM.out)).mono ?_
      rintro e w2 ⟨rfl, hm⟩
      have hM2 := hid (hM.out.tr hm)
      have hA2 := hid (hm.blk hA.out (by simp))
      have hB2 := hid (hm.blk hB.out (by simp))
      obtain ⟨b, off, rfl, c0, c1, c2, c3, c4⟩ := (H.out.mod hM2.out).at Hx.out
      clear hm hM hA hB
      obtain ⟨a0, a1, a2, a3, a4, f0, f1, f2, f3, f4⟩ := hA2.out.five
      obtain ⟨e0, e1, e2, e3, e4, g0, g1, g2, g3, g4⟩ := hB2.out.five
      cases hmay : mayB l
      · have Hm := hid hmay
        clear hmay
        go_wp2
        obtain ⟨t0, t1, t2, t3, t4, _⟩ := (hA2.out.set5 (.int .u64 (o.getD v0).ts) (.int .u64 (o.getD v0).ln) (.bool (o.getD v0).dl) (.string (o.getD v0).vl) (.bool (o.getD v0).ak)).five
        exact bodyPost_ret (v := .tuple #[vrV (o.getD v0), .bool o.isSome]) (by simp [results, Try.results9, go_sem, t0, t1, t2, t3, t4, vrV]) rfl ⟨by rw [hO.out, upB_not _ _ _ Hm.out], hM2.out.set5 (Or.inr (Nat.le_refl _)) _ _ _ _ _⟩
      · by_cases hp : x.ts ≤ t
        · have hO2 : Hid (some x = upB (visP t) l (k + 1)) := (upB_yes _ _ _ _ Hx.out hmay (by simp [visP, hp])).symm
          have Hm := hid hmay
          clear a0 a1 a2 a3 a4 f0 f1 f2 f3 f4
          go_wp2
          go_roundg (gk - 1)
          case measure => omega
          case rel => exact ⟨k + 1, some x, by go_num, rfl, by omega, hO2, hid (((((hA2.out.other (by simp) _).other (by simp) _).other (by simp) _).other (by simp) _).other (by simp) _), hB2.out.set5 _ _ _ _ _, hM2.out.set5 (Or.inr (by omega)) _ _ _ _ _⟩
        · have hO2 : Hid (o = upB (visP t) l (k + 1)) := by
            show _ = _
            rw [upB_no _ _ _ _ Hx.out (by simp [visP]; omega)]; exact hO.out
          clear a0 a1 a2 a3 a4 f0 f1 f2 f3 f4
          go_wp2
          go_roundg (gk - 1)
          case measure => omega
          case rel => exact ⟨k + 1, o, by go_num, rfl, by omega, hO2, hA2, hB2, hM2⟩
    · obtain rfl : k = l.length := by omega
      obtain ⟨a0, a1, a2, a3, a4, f0, f1, f2, f3, f4⟩ := hA.out.five
      obtain ⟨e0, e1, e2, e3, e4, g0, g1, g2, g3, g4⟩ := hB.out.five
      go_wp2
      obtain ⟨t0, t1, t2, t3, t4, _⟩ := (hA.out.set5 (.int .u64 (o.getD v0).ts) (.int .u64 (o.getD v0).ln) (.bool (o.getD v0).dl) (.string (o.getD v0).vl) (.bool (o.getD v0).ak)).five
      exact bodyPost_ret (v := .tuple #[vrV (o.getD v0), .bool o.isSome]) (by simp [results, Try.results9, go_sem, t0, t1, t2, t3, t4, vrV]) rfl ⟨by rw [hO.out, upB_all], hM.out.set5 (Or.inr (Nat.le_refl _)) _ _ _ _ _⟩

/-- Of none of the times is one past the greatest. -/
theorem seenB_congr (p q : Vr → Bool) (l : List Vr) (h : ∀ x ∈ l, p x = q x) : seenB p l = seenB q l := by
  unfold seenB lastB
  split
  · have H : ∀ m : List Vr, (∀ x ∈ m, p x = q x) → m.find? p = m.find? q := by
      intro m
      induction m with
      | nil => intro _; rfl
      | cons y m ih =>
        intro hm
        rw [List.find?_cons, List.find?_cons, hm y (by simp), ih (fun x hx => hm x (by simp [hx]))]
    exact H _ fun x hx => h x (by simpa using hx)
  · rfl

set_option maxRecDepth 100000 in
set_option maxHeartbeats 1000000 in
theorem rnewest_c (w : World) (v : Value) (l : List Vr) (h : Lv w v l) (hb : ∀ x ∈ l, x.ts < 18446744073709551616) :
    Calls Try.prog 11 #[v] w (SeenSays w (seenB (fun _ => true) l)) := by
  have H := hid h
  obtain ⟨a, cap, rfl, _, _⟩ := h
  have hM := hid ((Mod.refl [] w).alloc (.cells #[.int .u64 0, .int .u64 0, .bool false, .string ⟨#[]⟩, .bool false] 25))
  have hB := hid (Blk.new w #[.int .u64 0, .int .u64 0, .bool false, .string ⟨#[]⟩, .bool false] 25)
  have hq : Hid (seenB (visP 18446744073709551615) l = seenB (fun _ => true) l) := seenB_congr _ _ _ (fun x hx => by have := hb x hx; simp [visP]; omega)
  clear hb
  go_enter Try.func11, Try.ntmps11
  go_wp2_with fail
  refine (rvisible_c _ _ l 18446744073709551615 (H.out.mod hM.out)).mono ?_
  rw [hq.out]
  rintro e w2 ⟨rfl, hm⟩
  have hM2 := hid (hM.out.tr hm)
  have hB2 := hid (hm.blk hB.out (by simp))
  clear hm hM hB hq
  obtain ⟨c0, c1, c2, c3, c4, f0, f1, f2, f3, f4⟩ := hB2.out.five
  obtain ⟨x, hx⟩ : ∃ x, (seenB (fun _ => true) l).getD v0 = x := ⟨_, rfl⟩
  obtain ⟨q, hq⟩ : ∃ q, (seenB (fun _ => true) l).isSome = q := ⟨_, rfl⟩
  rw [hx, hq]
  have Hx := hid hx
  have Hq := hid hq
  clear hx hq
  simp only [vrV]
  go_wp2
  obtain ⟨t0, t1, t2, t3, t4, _⟩ := (hB2.out.set5 (.int .u64 x.ts) (.int .u64 x.ln) (.bool x.dl) (.string x.vl) (.bool x.ak)).five
  exact bodyPost_ret (v := .tuple #[vrV x, .bool q]) (by simp [results, Try.results11, go_sem, t0, t1, t2, t3, t4, vrV]) rfl ⟨by rw [Hx.out, Hq.out], hM2.out.set5 (Or.inr (by omega)) _ _ _ _ _⟩

theorem seenB_zero (l : List Vr) : seenB (belP 0) l = none := by
  unfold seenB
  split
  · rw [last_none_iff]; intro j y _; simp [belP]
  · rfl

set_option maxRecDepth 100000 in
set_option maxHeartbeats 1000000 in
theorem rbelow_c (w : World) (v : Value) (l : List Vr) (t : Nat) (h : Lv w v l) (ht : t < 18446744073709551616) :
    Calls Try.prog 13 #[v, .int .u64 t] w (SeenSays w (seenB (belP t) l)) := by
  have H := hid h
  obtain ⟨a, cap, rfl, _, _⟩ := h
  have hM := hid ((Mod.refl [] w).alloc (.cells #[.int .u64 0, .int .u64 0, .bool false, .string ⟨#[]⟩, .bool false] 25))
  have hB := hid (Blk.new w #[.int .u64 0, .int .u64 0, .bool false, .string ⟨#[]⟩, .bool false] 25)
  rcases Nat.eq_zero_or_pos t with rfl | h0
  · obtain ⟨c0, c1, c2, c3, c4, f0, f1, f2, f3, f4⟩ := hB.out.five
    go_enter Try.func13, Try.ntmps13
    go_wp2
    exact bodyPost_ret (v := .tuple #[vrV v0, .bool false]) (by simp [results, Try.results13, go_sem, c0, c1, c2, c3, c4, vrV, v0]) rfl ⟨by rw [seenB_zero]; rfl, hM.out⟩
  · obtain ⟨t, rfl⟩ : ∃ s, t = s + 1 := ⟨t - 1, by omega⟩
    have hq : Hid (seenB (visP t) l = seenB (belP (t + 1)) l) := seenB_congr _ _ _ (fun x hx => by rw [Bool.eq_iff_iff]; simp [visP, belP]; omega)
    have hw : IntKind.u64.wrap (((t + 1 : Nat) : Int) - 1) = (t : Int) := by rw [IntWalk.u64_in _ ⟨by omega, by omega⟩]; omega
    have hne : (((t + 1 : Nat) : Int) == 0) = false := by simp; omega
    go_enter Try.func13, Try.ntmps13
    go_wp2_with fail
    refine (rvisible_c _ _ l t (H.out.mod hM.out)).mono ?_
    rw [hq.out]
    rintro e w2 ⟨rfl, hm⟩
    have hM2 := hid (hM.out.tr hm)
    have hB2 := hid (hm.blk hB.out (by simp))
    clear hm hM hB hq
    obtain ⟨c0, c1, c2, c3, c4, f0, f1, f2, f3, f4⟩ := hB2.out.five
    obtain ⟨x, hx⟩ : ∃ x, (seenB (belP (t + 1)) l).getD v0 = x := ⟨_, rfl⟩
    obtain ⟨q, hq⟩ : ∃ q, (seenB (belP (t + 1)) l).isSome = q := ⟨_, rfl⟩
    rw [hx, hq]
    have Hx := hid hx
    have Hq := hid hq
    clear hx hq
    simp only [vrV]
    go_wp2
    obtain ⟨t0, t1, t2, t3, t4, _⟩ := (hB2.out.set5 (.int .u64 x.ts) (.int .u64 x.ln) (.bool x.dl) (.string x.vl) (.bool x.ak)).five
    exact bodyPost_ret (v := .tuple #[vrV x, .bool q]) (by simp [results, Try.results13, go_sem, t0, t1, t2, t3, t4, vrV]) rfl ⟨by rw [Hx.out, Hq.out], hM2.out.set5 (Or.inr (by omega)) _ _ _ _ _⟩

end Go.Proofs.Ytmdomihpohekiaa
