/- without, Cut, Prune. -/
import Derived.Test.YtmdomihpohekiaaV7
namespace Go.Proofs.Ytmdomihpohekiaa
set_option linter.unusedVariables false
set_option linter.unusedSimpArgs false
set_option linter.unusedSectionVars false
open Go.RowKit

theorem Mod.fresh {l : List Nat} {a b c : World} (h : Mod [] a b) (k : Mod l b c) (hf : ∀ x ∈ l, a.heap.size ≤ x) : Mod [] a c :=
  h.trans k (by simp) (fun x hx hlt => absurd (hf x hx) (by omega))
theorem OwnSays.tr {w0 w : World} {l : List Vr} {e : Ending} {w' : World} (hm : Mod [] w0 w) (h : OwnSays w l e w') : OwnSays w0 l e w' := by
  obtain ⟨v, L, h1, h2, h3, h4⟩ := h
  exact ⟨v, L, h1, h2, hm.tr h3, fun k hk => by have := h4 k hk; have := hm.size; omega⟩

def withoutB (p : Vr → Bool) (l : List Vr) : List Vr := if mayB l then keepB p l else l

set_option maxRecDepth 100000 in
set_option maxHeartbeats 1000000 in
theorem without_c (w : World) (v : Value) (l : List Vr) (h : Lv w v l) (hl : l.length ≤ 1000000) (b k : Nat) (caps : Array Value) (p : Vr → Bool) (hb : Blk w b #[.func (.func k) #[] caps] 46) (hp : Asks w k caps p) :
    Calls Try.prog 36 #[v, .slice (some ⟨b, 0, none⟩) 1 1] w (OwnSays w (withoutB p l)) := by
  have H := hid h
  have HP := hid hp
  have HB := hid hb
  obtain ⟨a, cap, rfl, _, _⟩ := h
  clear hp hb
  go_enter Try.func36, Try.ntmps36
  go_wp2_with fail
  refine (own_c _ _ l H.out hl).mono ?_
  rintro e w1 ⟨v1, L1, rfl, ho, hm, hf⟩
  have ho1 := hid ho
  have hm1 := hid hm
  have hf1 := hid hf
  obtain ⟨a1, cap1, rfl, _⟩ := ho.val
  clear ho hm hf
  go_wp2_with fail
  refine (may_c _ _ l (H.out.mod hm1.out)).mono ?_
  rintro e w2 ⟨rfl, hm⟩
  have ho2 := hid (ho1.out.mod hm (by simp))
  have hm2 := hid (hm1.out.tr hm)
  clear hm ho1 hm1
  cases hmay : mayB l
  · have hs : Hid (withoutB p l = l) := by show _ = _; simp [withoutB, hmay]
    clear hmay
    go_wp2
    go_ret
    refine ⟨_, L1, rfl, ?_, hm2.out, hf1.out⟩
    rw [hs.out]
    exact ho2.out
  · have hs : Hid (withoutB p l = keepB p l) := by show _ = _; simp [withoutB, hmay]
    clear hmay
    go_wp2
    go_loopg [5, 16] 1 (fun g o i wr => ∃ (j : Nat) (v : Value) (m : List Vr) (L : List Nat), o = v ∧ i = .int .i64 j ∧ j + g = 1 ∧ Hid (Own wr 25 5 v m.length (vsC m) L) ∧ Hid (Mod [] w wr) ∧ Hid (∀ k ∈ L, w.heap.size ≤ k) ∧ Hid ((j = 0 → m = l) ∧ (j = 1 → m = keepB p l)))
    · exact ⟨0, _, l, L1, rfl, rfl, rfl, ho2, hm2, hf1, hid (by simp)⟩
    · obtain ⟨j, v, m, L, rfl, rfl, hj, ho, hM, hF, hc⟩ := hrel
      clear ho2 hm2 hf1
      rcases (by omega : j = 0 ∨ j = 1) with rfl | rfl
      · obtain rfl := hc.out.1 rfl
        have c0 := (hM.out.blk HB.out (by simp)).cell 0
        simp at c0
        go_wp2_with fail
        refine (delete_c _ _ m L ho.out k caps p (fun W hW => HP.out.mod (hM.out.fresh hW hF.out))).mono ?_
        rintro e w3 ⟨v3, L3, rfl, ho3, hm3, hf3⟩
        have Ho3 := hid ho3
        have Hm3 := hid (hM.out.fresh hm3 hF.out)
        have Hf3 := hid hf3
        clear ho3 hm3 hf3
        go_wp2
        go_roundg 0
        case measure => omega
        case rel => exact ⟨1, v3, _, L3, rfl, by go_num, rfl, Ho3, Hm3, hid (fun x hx => hF.out x (Hf3.out x hx)), hid (by simp)⟩
      · obtain rfl := hc.out.2 rfl
        go_wp2
        go_ret
        exact ⟨_, L, rfl, by rw [hs.out]; exact ho.out, hM.out, hF.out⟩

def tsP (t : Nat) (x : Vr) : Bool := decide (x.ts = t)

set_option maxRecDepth 100000 in
theorem cut_asks (w : World) (b t : Nat) (h : Blk w b #[.int .u64 t] 23) : Asks w 39 #[.pointer (some ⟨b, 0, none⟩)] (tsP t) := by
  refine ⟨enters_of Try.func39 (by kernel_rfl) rfl, fun W hW x => ?_⟩
  have c := (hW.blk h (by simp)).cell 0
  simp at c
  have hl := (hW.blk h (by simp)).lt
  unfold vrV
  show Calls Try.prog _ #[_, _] _ _
  go_enter Try.func39, Try.ntmps39
  go_wp2
  go_ret
  refine ⟨ret_bool ?_, (Mod.refl [] W).alloc _⟩
  rw [Bool.eq_iff_iff]; simp [tsP]; try omega

set_option maxRecDepth 100000 in
set_option maxHeartbeats 1000000 in
theorem cut_c (w : World) (v : Value) (l : List Vr) (t : Nat) (h : Lv w v l) (hl : l.length ≤ 1000000) :
    Calls Try.prog 17 #[v, .int .u64 t] w (OwnSays w (withoutB (tsP t) l)) := by
  have H := hid h
  obtain ⟨a, cap, rfl, _, _⟩ := h
  have hA := hid ((cut_asks _ _ t (Blk.new w #[.int .u64 t] 23)).mod ((Mod.refl [] _).alloc (.cells #[.func (.func 39) #[] #[.pointer (some ⟨w.heap.size, 0, none⟩)]] 46)))
  have hB := Blk.new (w.alloc (.cells #[.int .u64 t] 23)) #[.func (.func 39) #[] #[.pointer (some ⟨w.heap.size, 0, none⟩)]] 46
  rw [World.size_alloc] at hB
  have HB := hid hB
  have hM := hid (((Mod.refl [] w).alloc (.cells #[.int .u64 t] 23)).alloc (.cells #[.func (.func 39) #[] #[.pointer (some ⟨w.heap.size, 0, none⟩)]] 46))
  clear hB
  go_enter Try.func17, Try.ntmps17
  go_wp2_with fail
  refine (without_c _ _ l (H.out.mod hM.out) hl _ _ _ _ HB.out hA.out).mono ?_
  rintro e w3 hs
  have Hs := hid (hs.tr hM.out)
  obtain ⟨v3, L3, rfl, _⟩ := hs
  go_wp2
  go_ret
  exact Hs.out

def prP (o : Option Vr) (x : Vr) : Bool := o.isSome && decide (x.ts < (o.getD v0).ts)
def pruneB (t : Nat) (l : List Vr) : List Vr := withoutB (prP (seenB (logP t) l)) l

set_option maxRecDepth 100000 in
theorem pr_asks (w : World) (b b' : Nat) (o : Option Vr) (h : Blk w b #[.bool o.isSome] 4) (h' : Blk w b' (vrC (o.getD v0)).toArray 25) : Asks w 44 #[.pointer (some ⟨b, 0, none⟩), .pointer (some ⟨b', 0, none⟩)] (prP o) := by
  refine ⟨enters_of Try.func44 (by kernel_rfl) rfl, fun W hW x => ?_⟩
  have c := (hW.blk h (by simp)).cell 0
  simp at c
  have hl := (hW.blk h (by simp)).lt
  have c' : W.cell? ⟨b', 0, none⟩ = some (.int .u64 (o.getD v0).ts) := (hW.blk h' (by simp)).cell 0
  have hl' := (hW.blk h' (by simp)).lt
  unfold vrV
  show Calls Try.prog _ #[_, _, _] _ _
  clear h h'
  cases ho : o.isSome
  · rw [ho] at c
    have Ho := hid ho
    clear ho
    go_enter Try.func44, Try.ntmps44
    go_wp2
    go_ret
    exact ⟨ret_bool (by simp [prP, Ho.out]), (Mod.refl [] W).alloc _⟩
  · rw [ho] at c
    have Ho := hid ho
    clear ho
    go_enter Try.func44, Try.ntmps44
    go_wp2
    go_ret
    exact ⟨ret_bool (by simp [prP, Ho.out]), (Mod.refl [] W).alloc _⟩

set_option maxRecDepth 100000 in
set_option maxHeartbeats 1000000 in
theorem prune_c (w : World) (v : Value) (l : List Vr) (t : Nat) (h : Lv w v l) (hl : l.length ≤ 1000000) :
    Calls Try.prog 23 #[v, .int .u64 t] w (OwnSays w (pruneB t l)) := by
  have H := hid h
  obtain ⟨a, cap, rfl, _, _⟩ := h
  have hA := hid (log_asks _ _ t (Blk.new w #[.int .u64 t] 23))
  have hM := hid ((Mod.refl [] w).alloc (.cells #[.int .u64 t] 23))
  go_enter Try.func23, Try.ntmps23
  go_wp2_with fail
  refine (seen_c _ _ l (H.out.mod hM.out) _ _ _ hA.out).mono ?_
  rintro e w2 ⟨rfl, hm⟩
  have hM2 := hid (hM.out.tr hm)
  clear hm hA hM
  obtain ⟨o, ho⟩ : ∃ o, seenB (logP t) l = o := ⟨_, rfl⟩
  rw [ho]
  have Ho := hid ho
  clear ho
  have b1 := Blk.new w2 (vrC (o.getD v0)).toArray 25
  have b2 := Blk.new (w2.alloc (.cells (vrC (o.getD v0)).toArray 25)) #[.bool o.isSome] 4
  have b3 := Blk.new ((w2.alloc (.cells (vrC (o.getD v0)).toArray 25)).alloc (.cells #[.bool o.isSome] 4)) #[.func (.func 44) #[] #[.pointer (some ⟨w2.heap.size + 1, 0, none⟩), .pointer (some ⟨w2.heap.size, 0, none⟩)]] 46
  have hm := ((hM2.out.alloc (.cells (vrC (o.getD v0)).toArray 25)).alloc (.cells #[.bool o.isSome] 4)).alloc (.cells #[.func (.func 44) #[] #[.pointer (some ⟨w2.heap.size + 1, 0, none⟩), .pointer (some ⟨w2.heap.size, 0, none⟩)]] 46)
  simp only [World.size_alloc] at b2 b3
  have HA := hid ((pr_asks _ _ _ o b2 (b1.alloc (.cells #[.bool o.isSome] 4))).mod ((Mod.refl [] _).alloc (.cells #[.func (.func 44) #[] #[.pointer (some ⟨w2.heap.size + 1, 0, none⟩), .pointer (some ⟨w2.heap.size, 0, none⟩)]] 46)))
  have HB := hid b3
  have hM := hid hm
  clear b1 b2 b3 hm
  simp only [vrV]
  go_wp2_with fail
  refine (without_c _ _ l (H.out.mod hM.out) hl _ _ _ _ HB.out HA.out).mono ?_
  rintro e w3 hs
  have Hs := hid (hs.tr hM.out)
  obtain ⟨v3, L3, rfl, _⟩ := hs
  go_wp2
  go_ret
  unfold pruneB
  rw [Ho.out]
  exact Hs.out

end Go.Proofs.Ytmdomihpohekiaa
