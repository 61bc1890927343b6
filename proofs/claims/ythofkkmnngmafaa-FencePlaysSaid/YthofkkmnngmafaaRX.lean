/- The reference fence: its functions, and same; FenceReads. -/
import Derived.Test.YthofkkmnngmafaaGB
import Derived.Test.YthofkkmnngmafaaRS
import Derived.Deep.RegionHeld3
namespace Go.Proofs.Ythofkkmnngmafaa
set_option linter.unusedVariables false
set_option linter.unusedSimpArgs false
set_option linter.unusedSectionVars false
open Go.RowKit

/- The reference's fence in memory: a list of leaves. Find, Insert. -/
def lfC (x : Lf) : List Value := [.string x.1, .int .u64 (x.2 : Nat)]
theorem lf_lays : Lays 2 lfC := ⟨fun _ => rfl, fun s u hu => by
  simp [lfC] at hu
  rcases hu with rfl | rfl <;> rfl, by decide⟩
theorem lf_el : (Try.prog.info? 86).map (fun i => (i.zero, i.size, i.bytes)) = some (some (.agg #[.string ⟨#[]⟩, .int .u64 0]), 2, 24) := by kernel_rfl
/-- The reference's fence, at block rb. -/
def rfR (rb : Nat) (l : List Lf) : Res := fun w L => ∃ v, star (boxR rb #[v] 89) (rowR 86 2 v l.length (flat lfC l)) w L
instance (rb : Nat) (l : List Lf) : Keep (rfR rb l) where
  lt := by rintro w L ⟨c, h⟩ k hk; exact Keep.lt h k hk
  mod := by rintro w w' L M ⟨c, h⟩ hm hd; exact ⟨c, Keep.mod h hm hd⟩
theorem ent_rfR (rb : Nat) (l : List Lf) (v : Value) (n : Nat) (xs : List Value) (hn : n = l.length) (hx : xs = flat lfC l) (U : Res) : Ent (star (boxR rb #[v] 89) (star (rowR 86 2 v n xs) U)) (star (rfR rb l) U) := by
  subst hn; subst hx
  exact (ent_assoc2 _ _ _).trans (Ent.left (fun w L h => ⟨L, ⟨v, h⟩, fun _ h => h⟩) U)
/-- What may be read of it. -/
structure RfAt (w : World) (rb : Nat) (l : List Lf) (g cap : Nat) : Prop where
  box : Blk w rb #[.slice (some ⟨g, 0, none⟩) l.length cap] 89
  lx : Lx 2 lfC w (.slice (some ⟨g, 0, none⟩) l.length cap) l
  room : l.length ≤ cap
  most : cap ≤ 9223372036854775807
theorem RfAt.mod {w w' : World} {rb : Nat} {l : List Lf} {g cap : Nat} (h : RfAt w rb l g cap) (hm : Mod [] w w') : RfAt w' rb l g cap := ⟨hm.blk h.box (by simp), h.lx.mod hm, h.room, h.most⟩
theorem RfAt.leaf {w : World} {rb : Nat} {l : List Lf} {g cap : Nat} (h : RfAt w rb l g cap) {i : Nat} {x : Lf} (hx : l[i]? = some x) : w.cell? ⟨g, i * 2, none⟩ = some (.string x.1) ∧ w.cell? ⟨g, i * 2 + 1, none⟩ = some (.int .u64 (x.2 : Nat)) := by
  obtain ⟨b, off, e, hc⟩ := h.lx.at hx
  cases e
  have h0 := hc 0 _ rfl
  have h1 := hc 1 _ rfl
  simp only [Nat.zero_add, Nat.add_zero] at h0 h1
  exact ⟨h0, h1⟩
theorem hld_rf {w0 w : World} {L0 : List Nat} {U : Res} {rb : Nat} {l : List Lf} (h : Hld w0 L0 (star (rfR rb l) U) w) (hl : 0 < l.length) : ∃ g cap, RfAt w rb l g cap ∧ Hld w0 L0 (star (boxR rb #[.slice (some ⟨g, 0, none⟩) l.length cap] 89) (star (rowR 86 2 (.slice (some ⟨g, 0, none⟩) l.length cap) l.length (flat lfC l)) U)) w := by
  obtain ⟨v, h⟩ := h.ex
  have h := h.as1
  obtain ⟨L, hL⟩ := h.drop.res
  obtain ⟨a, cap, rfl, hc, hm, hg⟩ := Own.val hL
  obtain ⟨g, rfl, _, _⟩ := hg (by omega)
  exact ⟨g, cap, ⟨h.get, Own.lx lf_lays hL, hc, hm⟩, h⟩

theorem findL_take {l : List Lf} {k : ByteArray} {i : Nat} {x : Lf} (hx : l[i]? = some x) : findL (l.take (i + 1)) k = if SL k x.1 then findL (l.take i) k else x.2 := by
  unfold findL
  rw [List.take_add_one, hx, List.foldl_append]
  rfl
set_option maxRecDepth 100000 in
set_option maxHeartbeats 2000000 in
theorem rfind_c (w : World) (rb : Nat) (l : List Lf) (g cap : Nat) (k : ByteArray) (h : RfAt w rb l g cap) (hok : OkL l) :
    Calls Try.prog 53 #[.pointer (some ⟨rb, 0, none⟩), .string k] w fun e w' => e = .returned (.int .u64 (findL l k : Nat)) ∧ w = w' := by
  have H := hid h
  have hl := hok.len
  have hp := hok.pos
  have b0 := h.box.cell 0
  have hbl := h.box.lt
  simp only [List.getElem?_toArray, List.getElem?_cons_zero] at b0
  obtain ⟨x0, hx0⟩ : ∃ x0, l[0]? = some x0 := ⟨_, List.getElem?_eq_getElem hp⟩
  obtain ⟨_, c1⟩ := h.leaf hx0
  rw [show 0 * 2 + 1 = 1 from rfl] at c1
  have hfirst : Hid (findL (l.take 1) k = x0.2) := by
    show _ = _
    rw [findL_take hx0, if_neg]
    obtain ⟨q, r, e⟩ := hok.head
    rw [e] at hx0
    cases hx0
    exact SL_mt k
  have hp1 : (0 : Int) < (l.length : Int) := by omega
  clear h hok hx0
  go_enter Try.func53, Try.ntmps53
  go_wp2
  clear c1
  go_loopg [5, 6] l.length (fun g' p q wr => ∃ i : Nat, p = .int .u64 (findL (l.take i) k : Nat) ∧ q = .int .i64 i ∧ i + g' = l.length + 1 ∧ i ≤ l.length ∧ Hid (w = wr))
  · exact ⟨1, by rw [hfirst.out], rfl, by omega, by omega, rfl⟩
  · obtain ⟨i, rfl, rfl, hi, hil, hw⟩ := hrel
    obtain rfl := hw.out
    by_cases hlt : i < l.length
    · obtain ⟨x, hx⟩ : ∃ x, l[i]? = some x := ⟨_, List.getElem?_eq_getElem hlt⟩
      obtain ⟨c0, c1⟩ := H.out.leaf hx
      have hi1 : (i : Int) < (l.length : Int) := by omega
      have hi0 : (0 : Int) ≤ (i : Int) := by omega
      have hst := hid (findL_take (k := k) hx)
      clear hx
      by_cases hls : SL k x.1
      · have hne : x.1 ≠ k := fun e => by rw [e] at hls; exact SL_irrefl _ hls
        have hb1 : (x.1.toList == k.toList) = false := eqS_no hne
        have hb3 : ¬ x.1.toList = k.toList := by simpa using hb1
        have hb2 : Op.bytesLess x.1.toList k.toList = false := blS_no (SL_asymm hls)
        rw [if_pos hls] at hst
        clear hls hne
        go_wp2
        go_roundg (gk - 1)
        case measure => omega
        case rel => exact ⟨i + 1, by rw [hst.out], by go_num, by omega, by omega, rfl⟩
      · rw [if_neg hls] at hst
        have hor : (Op.bytesLess x.1.toList k.toList = true) ∨ (x.1 = k) := by
          rcases SL_tri x.1 k with h | h | h
          · exact Or.inl (blS_yes h)
          · exact Or.inr h
          · exact absurd h hls
        clear hls
        obtain ⟨xs, xp⟩ := x
        dsimp only at c0 c1 hst hor
        rcases hor with hb2 | rfl
        all_goals
          go_wp2
          go_roundg (gk - 1)
          case measure => omega
          case rel => exact ⟨i + 1, by rw [hst.out], by go_num, by omega, by omega, rfl⟩
    · have hi1 : ¬ (i : Int) < (l.length : Int) := by omega
      obtain rfl : i = l.length := by omega
      go_wp2
      go_ret
      exact ⟨rfl, rfl⟩

/- Insert of the reference's fence: the walk. -/
/-- What the loop has seen of the first i. -/
def SawB (l : List Lf) (sep : ByteArray) (pid : Nat) (b0 : Bool) (i : Nat) : Prop := b0 = true ∨ ∃ j x, j < i ∧ l[j]? = some x ∧ (x.2 = pid ∨ (0 < j ∧ x.1 = sep))
theorem SawB.step {l : List Lf} {sep : ByteArray} {pid : Nat} {b0 : Bool} {i : Nat} {x : Lf} (hx : l[i]? = some x) : SawB l sep pid b0 (i + 1) ↔ SawB l sep pid b0 i ∨ (x.2 = pid ∨ (0 < i ∧ x.1 = sep)) := by
  unfold SawB
  constructor
  · rintro (h | ⟨j, y, h1, h2, h3⟩)
    · exact Or.inl (Or.inl h)
    · rcases (by omega : j < i ∨ j = i) with h | rfl
      · exact Or.inl (Or.inr ⟨j, y, h, h2, h3⟩)
      · rw [hx] at h2; cases h2; exact Or.inr h3
  · rintro ((h | ⟨j, y, h1, h2, h3⟩) | h)
    · exact Or.inl h
    · exact Or.inr ⟨j, y, by omega, h2, h3⟩
    · exact Or.inr ⟨i, x, by omega, hx, h⟩
theorem SawB.all {l : List Lf} (hok : OkL l) {sep : ByteArray} {pid : Nat} : SawB l sep pid (decide (sep = mt) || decide (16 < sep.size) || decide (pid = 0)) l.length ↔ insBadL l sep pid = true := by
  unfold SawB insBadL
  simp only [Bool.or_eq_true, decide_eq_true_eq]
  constructor
  · rintro (((h | h) | h) | ⟨j, x, h1, h2, h3 | ⟨h3, h4⟩⟩)
    · exact Or.inl (Or.inl (Or.inl (Or.inl h)))
    · exact Or.inl (Or.inl (Or.inl (Or.inr h)))
    · exact Or.inl (Or.inr h)
    · exact Or.inr (List.mem_map.2 ⟨x, List.mem_of_getElem? h2, h3⟩)
    · refine Or.inl (Or.inl (Or.inr ?_))
      obtain ⟨k, rfl⟩ : ∃ k, j = k + 1 := ⟨j - 1, by omega⟩
      refine List.mem_of_getElem? (i := k) ?_
      simp only [List.getElem?_drop, List.getElem?_map]
      rw [Nat.add_comm, h2, ← h4]; rfl
  · rintro ((((h | h) | h) | h) | h)
    · exact Or.inl (Or.inl (Or.inl h))
    · exact Or.inl (Or.inl (Or.inr h))
    · obtain ⟨k, hk⟩ := List.mem_iff_getElem?.1 h
      simp only [List.getElem?_drop, List.getElem?_map, Option.map_eq_some_iff] at hk
      obtain ⟨x, hx, e⟩ := hk
      exact Or.inr ⟨1 + k, x, (List.getElem?_eq_some_iff.1 hx).1, hx, Or.inr ⟨by omega, e⟩⟩
    · exact Or.inl (Or.inr h)
    · obtain ⟨x, hx, e⟩ := List.mem_map.1 h
      obtain ⟨j, hj⟩ := List.mem_iff_getElem?.1 hx
      exact Or.inr ⟨j, x, (List.getElem?_eq_some_iff.1 hj).1, hj, Or.inl e⟩
theorem putL_at {l : List Lf} (hok : OkL l) {sep : ByteArray} {pid n : Nat} (hn : ∀ x ∈ l, x.1 ≠ sep) (hle : n ≤ l.length) (h1 : ∀ j x, j < n → l[j]? = some x → SL x.1 sep) (h2 : ∀ x, l[n]? = some x → ¬ SL x.1 sep) : putL l sep pid = l.take n ++ (sep, pid) :: l.drop n := by
  have e := List.take_append_drop n l
  have key := putL_cut (A := l.take n) (B := l.drop n) (sep := sep) (pid := pid) (fun x hx => ?_) (fun x hx => ?_)
  · rw [e] at key; exact key
  · obtain ⟨j, hj⟩ := List.mem_iff_getElem?.1 hx
    rw [List.getElem?_take] at hj
    split at hj
    · exact h1 j x ‹_› hj
    · cases hj
  · obtain ⟨j, hj⟩ := List.mem_iff_getElem?.1 hx
    rw [List.getElem?_drop] at hj
    obtain ⟨hlt, ej⟩ := List.getElem?_eq_some_iff.1 hj
    have hy : l[n]? = some l[n] := List.getElem?_eq_getElem (by omega)
    have h3 := h2 _ hy
    have h4 : SL sep l[n].1 := by
      rcases SL_tri l[n].1 sep with k | k | k
      · exact absurd k h3
      · exact absurd k (hn _ (List.mem_of_getElem? hy))
      · exact k
    rcases (by omega : j = 0 ∨ 0 < j) with rfl | hj0
    · have : x = l[n] := by rw [← ej]; rfl
      rw [this]; exact h4
    · have hs := List.pairwise_iff_getElem.1 hok.srt n (n + j) (by omega) hlt (by omega)
      rw [ej] at hs
      exact SL_trans h4 hs
theorem hld_nilrow {w0 w : World} {L0 : List Nat} {R : Res} {E : TypeId} {sz : Nat} (h : Hld w0 L0 R w) : Hld w0 L0 (star (rowR E sz (.slice none 0 0) 0 []) R) w :=
  h.ent fun w L hL => ⟨[] ++ L, ⟨[], L, Own.nil w E sz, hL, rfl, by simp⟩, by simp⟩

theorem one_lf {w : World} {g : Nat} (x : Lf) (h : Blk w g #[.string x.1, .int .u64 (x.2 : Nat)] 86) : Lx 2 lfC w (.slice (some ⟨g, 0, none⟩) 1 1) [x] := by
  refine ⟨_, 1, rfl, Or.inr ⟨g, 0, rfl, fun i y hy j v' hj => ?_⟩, by simp⟩
  cases i with
  | succ i => simp at hy
  | zero =>
    simp at hy
    subst hy
    rw [show 0 + 0 * 2 + j = j by omega, h.cell]
    rcases (by have := (List.getElem?_eq_some_iff.1 hj).1; simp [lfC] at this; omega : j = 0 ∨ j = 1) with rfl | rfl
    · exact hj
    · exact hj
/-- The new list is stored. -/
theorem rf_store {w0 w : World} {L0 : List Nat} {U : Res} [Keep U] {rb : Nat} {l m : List Lf} {v : Value} {n : Nat} {xs : List Value} (h : Hld w0 L0 (star (rowR 86 2 v n xs) (star (rfR rb l) U)) w) (hn : n = m.length) (hx : xs = flat lfC m) : Hld w0 L0 (star (rfR rb m) U) (w.setCell ⟨rb, 0, none⟩ v) := by
  obtain ⟨v0, h⟩ := h.swap.ex
  have h1 := h.as1.set 0 v
  simp only [List.setIfInBounds_toArray, List.set_cons_zero] at h1
  exact h1.ent ((((ent_drop _ _).under _)).trans (ent_rfR rb m v n xs hn hx U))
theorem row_any {w0 w : World} {L0 : List Nat} {U : Res} {E : TypeId} {sz n : Nat} {v : Value} {xs : List Value} (h : Hld w0 L0 (star (rowR E sz v n xs) U) w) : ∃ a c, v = .slice a n c := by
  obtain ⟨L, hL⟩ := h.res
  obtain ⟨a, c, e, _⟩ := Own.val hL
  exact ⟨a, c, e⟩
/-- The fence's own cell, behind a row. -/
theorem hld_f0 {w0 w : World} {L0 : List Nat} {U : Res} {R : Res} {rb : Nat} {l : List Lf} (h : Hld w0 L0 (star R (star (rfR rb l) U)) w) : ∃ v, w.cell? ⟨rb, 0, none⟩ = some v ∧ w.frozen? ⟨rb, 0, none⟩ = false ∧ rb < w.heap.size ∧ ∃ a n c, v = .slice a n c := by
  obtain ⟨v, h⟩ := h.swap.ex
  have h := h.as1
  obtain ⟨a, c, rfl⟩ := row_any h.drop
  have b := h.get.cell 0
  simp only [List.getElem?_toArray, List.getElem?_cons_zero] at b
  exact ⟨_, b, h.get.free 0, h.get.lt, a, _, c, rfl⟩


set_option maxRecDepth 100000 in
set_option maxHeartbeats 4000000 in
theorem rins_c (w0 : World) (L0 : List Nat) (w : World) (rb : Nat) (l : List Lf) (sep : ByteArray) (pid : Nat) (U : Res) [Keep U] (h : Hld w0 L0 (star (rfR rb l) U) w) (hok : OkL l) (hs : sep.size ≤ 9223372036854775807) :
    Calls Try.prog 44 #[.pointer (some ⟨rb, 0, none⟩), .string sep, .int .u64 (pid : Nat)] w fun e w' => e = .returned (.int .i64 (insAnsL l sep pid : Nat)) ∧ Hld w0 L0 (star (rfR rb (insLL l sep pid)) U) w' := by
  have Hh := hid h
  have Hok := hid hok
  have hl := hok.len
  have hp := hok.pos
  obtain ⟨g, cap, hat, hH⟩ := hld_rf h hp
  have b0 := hat.box.cell 0
  have f0 := hat.box.free 0
  have hbl := hat.box.lt
  simp only [List.getElem?_toArray, List.getElem?_cons_zero] at b0
  have HA := hid hat
  have HH := hid hH
  have hp1 : (0 : Int) < (l.length : Int) := by omega
  obtain ⟨z0, hz0⟩ : ∃ z0, z0 = (decide (sep = mt) || decide (16 < sep.size) || decide (pid = 0)) := ⟨_, rfl⟩
  have HZ := hid hz0
  clear h hok hat hH hz0
  go_enter Try.func44, Try.ntmps44
  go_upto_region 1 with (fail)
  go_cut [7] from 11 to 21 (fun p wx => p = .bool z0 ∧ Hid (w = wx))
  case first =>
    by_cases h1 : sep = mt
    · subst h1
      have hme : mt.toList.isEmpty = true := (isEmpty_iff mt).2 rfl
      have hz : z0 = true := by rw [HZ.out]; simp
      clear HZ
      go_wp2
      go_meet
      exact ⟨by rw [hz], rfl⟩
    · have hne : sep.toList.isEmpty = false := by
        cases h : sep.toList.isEmpty
        · rfl
        · exact absurd (ba_ext (by rw [(isEmpty_iff sep).1 h]; rfl)) h1
      have hne2 : ¬ sep.toList = [] := by simpa using hne
      by_cases h2 : 16 < sep.size
      · have hz : z0 = true := by rw [HZ.out]; simp [h2]
        have h3 : (16 : Int) < (sep.size : Int) := by omega
        clear h1 h2 HZ
        go_wp2
        go_meet
        exact ⟨by rw [hz], rfl⟩
      · have h3 : ¬ (16 : Int) < (sep.size : Int) := by omega
        by_cases h4 : pid = 0
        · subst h4
          have hz : z0 = true := by rw [HZ.out]; simp
          clear h1 h2 HZ
          go_wp2
          go_meet
          exact ⟨by rw [hz], rfl⟩
        · have hz : z0 = false := by rw [HZ.out]; simp [h1, h2, h4]
          have h5 : ((pid : Int) == 0) = false := beq_eq_false_iff_ne.2 (by omega)
          clear h1 h2 HZ
          go_wp2
          go_meet
          exact ⟨by rw [hz], rfl⟩
  case rest =>
    obtain ⟨rfl, hw⟩ := hcut
    obtain rfl := hw.out
    clear hw
    go_wp2
    go_loopg [7, 8] l.length (fun g' p q wr => ∃ (i : Nat) (z : Bool), p = .bool z ∧ q = .int .i64 i ∧ i + g' = l.length ∧ Hid (z = true ↔ SawB l sep pid z0 i) ∧ Hid (w = wr))
    · exact ⟨0, z0, rfl, rfl, by omega, hid ⟨fun h => Or.inl h, fun h => by rcases h with h | ⟨j, x, h, _⟩; exact h; omega⟩, rfl⟩
    · obtain ⟨i, z, rfl, rfl, hi, hz, hw⟩ := hrel
      obtain rfl := hw.out
      clear hw
      by_cases hlt : i < l.length
      · obtain ⟨x, hx⟩ : ∃ x, l[i]? = some x := ⟨_, List.getElem?_eq_getElem hlt⟩
        obtain ⟨c0, c1⟩ := HA.out.leaf hx
        have hi1 : (i : Int) < (l.length : Int) := by omega
        have hi0 : (0 : Int) ≤ (i : Int) := by omega
        have hst := hid (SawB.step (sep := sep) (pid := pid) (b0 := z0) hx)
        clear hx
        obtain ⟨xs, xp⟩ := x
        dsimp only at c0 c1 hst
        cases z with
        | true =>
          go_wp2
          go_roundg (gk - 1)
          case measure => omega
          case rel => exact ⟨i + 1, true, rfl, by go_num, by omega, hid ⟨fun h => hst.out.2 (Or.inl (by have h := hz.out; simpa using h)), fun _ => rfl⟩, rfl⟩
        | false =>
          by_cases hpq : xp = pid
          · have hb1 : ((xp : Int) == (pid : Int)) = true := by subst hpq; simp
            have HE := hid hpq
            clear hpq
            go_wp2
            go_roundg (gk - 1)
            case measure => omega
            case rel => exact ⟨i + 1, true, rfl, by go_num, by omega, hid ⟨fun h => hst.out.2 (Or.inr (Or.inl HE.out)), fun _ => rfl⟩, rfl⟩
          · have hb1 : ((xp : Int) == (pid : Int)) = false := beq_eq_false_iff_ne.2 (by omega)
            have HE := hid hpq
            have hb4 : ¬ (xp : Int) = (pid : Int) := by omega
            clear hpq
            rcases Nat.eq_zero_or_pos i with h0' | h0
            · have hi2 : ¬ (0 : Int) < (i : Int) := by omega
              have h0 := hid h0'
              clear h0'
              go_wp2
              go_roundg (gk - 1)
              case measure => omega
              case rel => exact ⟨i + 1, false, rfl, by go_num, by omega, hid ⟨(fun h => by cases h), fun h => by
                rcases hst.out.1 h with h | h | h
                · exact hz.out.2 h
                · exact absurd h HE.out
                · have := h0.out; omega⟩, rfl⟩
            · have hi2 : (0 : Int) < (i : Int) := by omega
              by_cases hse : xs = sep
              · have hb2 : (xs.toList == sep.toList) = true := by subst hse; simp
                have hb3 : xs.toList = sep.toList := by rw [hse]
                have HS := hid hse
                clear hse
                go_wp2
                go_roundg (gk - 1)
                case measure => omega
                case rel => exact ⟨i + 1, true, rfl, by go_num, by omega, hid ⟨fun h => hst.out.2 (Or.inr (Or.inr ⟨h0, HS.out⟩)), fun _ => rfl⟩, rfl⟩
              · have hb2 : (xs.toList == sep.toList) = false := eqS_no hse
                have hb3 : ¬ xs.toList = sep.toList := by simpa using hb2
                have HS := hid hse
                clear hse
                go_wp2
                go_roundg (gk - 1)
                case measure => omega
                case rel => exact ⟨i + 1, false, rfl, by go_num, by omega, hid ⟨(fun h => by cases h), fun h => by
                  rcases hst.out.1 h with h | h | h
                  · exact hz.out.2 h
                  · exact absurd h HE.out
                  · exact absurd h.2 HS.out⟩, rfl⟩
      · have hi1 : ¬ (i : Int) < (l.length : Int) := by omega
        have hil : i = l.length := by omega
        have hbad : Hid (z = true ↔ insBadL l sep pid = true) := by
          have h := hz.out
          rw [hil, HZ.out] at h
          exact hid (h.trans (SawB.all Hok.out))
        clear hz hil HZ
        cases z with
        | true =>
          have hans : insAnsL l sep pid = 2 := by unfold insAnsL; rw [if_pos (hbad.out.1 rfl)]
          have hsame : insLL l sep pid = l := by unfold insLL; rw [hans]; rfl
          have HN := hid (And.intro hans hsame)
          clear hans hsame hbad
          go_wp2
          go_ret
          exact ⟨by rw [HN.out.1]; rfl, by rw [HN.out.2]; exact Hh.out⟩
        | false =>
          have hnb : ¬ insBadL l sep pid = true := fun h => by cases hbad.out.2 h
          by_cases h60 : 60 ≤ l.length
          · have hans : insAnsL l sep pid = 11 := by unfold insAnsL; rw [if_neg hnb, if_pos h60]
            have hsame : insLL l sep pid = l := by unfold insLL; rw [hans]; rfl
            have HN := hid (And.intro hans hsame)
            have h61 : (60 : Int) ≤ (l.length : Int) := by omega
            clear hans hsame hbad hnb
            go_wp2
            go_ret
            exact ⟨by rw [HN.out.1]; rfl, by rw [HN.out.2]; exact Hh.out⟩
          · have hans : insAnsL l sep pid = 0 := by unfold insAnsL; rw [if_neg hnb, if_neg h60]
            have hsame : insLL l sep pid = putL l sep pid := by unfold insLL; rw [if_pos hans]
            have HN := hid (And.intro hans hsame)
            have hnew := hid (Hok.out.new (insAnsL_zero.1 hans).1 (insAnsL_zero.1 hans).2.2.1)
            have h61 : ¬ (60 : Int) ≤ (l.length : Int) := by omega
            clear hans hsame hbad hnb
            go_wp2
            clear hi1 hi hlt
            go_loopg [9] l.length (fun g' p wr => ∃ n : Nat, p = .int .i64 n ∧ n + g' = l.length + 1 ∧ 1 ≤ n ∧ n ≤ l.length ∧ Hid (∀ j x, j < n → l[j]? = some x → SL x.1 sep) ∧ Hid (w = wr))
            · refine ⟨1, rfl, by omega, by omega, by omega, hid fun j x hj hx => ?_, rfl⟩
              obtain rfl : j = 0 := by omega
              obtain ⟨q, r, e⟩ := Hok.out.head
              rw [e] at hx
              cases hx
              exact mt_SL (insAnsL_zero.1 HN.out.1).1
            · obtain ⟨n, rfl, hng, hn1, hnl, hlo, hw⟩ := hrel
              obtain rfl := hw.out
              clear hw
              by_cases hnx : ∃ x, l[n]? = some x ∧ SL x.1 sep
              · obtain ⟨x, hx, hls⟩ := hnx
                obtain ⟨c0, c1⟩ := HA.out.leaf hx
                have hlt := (List.getElem?_eq_some_iff.1 hx).1
                have hi1 : (n : Int) < (l.length : Int) := by omega
                have hi0 : (0 : Int) ≤ (n : Int) := by omega
                have hb2 : Op.bytesLess x.1.toList sep.toList = true := blS_yes hls
                have Hx := hid (And.intro hx hls)
                obtain ⟨xs, xp⟩ := x
                dsimp only at c0 c1 hb2
                clear hx hls
                go_wp2
                go_roundg (gk - 1)
                case measure => omega
                case rel => exact ⟨n + 1, by go_num, by omega, by omega, by omega, hid fun j y hj hy => by
                  rcases (by omega : j < n ∨ j = n) with h | rfl
                  · exact hlo.out j y h hy
                  · rw [Hx.out.1] at hy; cases hy; exact Hx.out.2, rfl⟩
              · have hput := hid (putL_at (pid := pid) Hok.out hnew.out hnl hlo.out (fun x hx hls => hnx ⟨x, hx, hls⟩))
                have hor : n = l.length ∨ ∃ x, l[n]? = some x ∧ n < l.length ∧ Op.bytesLess x.1.toList sep.toList = false := by
                  rcases Nat.lt_or_ge n l.length with h | h
                  · exact Or.inr ⟨l[n], List.getElem?_eq_getElem h, h, blS_no fun hls => hnx ⟨l[n], List.getElem?_eq_getElem h, hls⟩⟩
                  · exact Or.inl (by omega)
                have HH1 := hid (hld_nilrow (E := 86) (sz := 2) Hh.out)
                obtain ⟨Ls, hs1, upd1⟩ := HH1.out.first
                have Hs1 := hid hs1
                have Hupd1 := hid upd1
                have Hx1 := hid (HA.out.lx.take (m := n) hnl cap)
                have hn0 : (0 : Int) ≤ (n : Int) := by omega
                have hncap : (n : Int) ≤ (cap : Int) := by have := HA.out.room; omega
                have hnl1 : (n : Int) ≤ (l.length : Int) := by omega
                have htl : (l.take n).length = n := by rw [List.length_take]; omega
                have HD : Hid (n < l.length ∨ ∀ (W : World) (a : Option Addr) (c : Nat), Lx 2 lfC W (.slice a (l.length - n) c) (l.drop n)) := by
                  rcases Nat.lt_or_ge n l.length with h | h
                  · exact Or.inl h
                  · exact Or.inr fun W a c => Lx.none a _ _ (by rw [List.length_drop]; omega) (by omega)
                clear hnx hs1 upd1 hlo
                rcases hor with hnl2 | ⟨x, hx, hnl2, hb2⟩
                case' inl =>
                  have hi1 : ¬ (n : Int) < (l.length : Int) := by omega
                  clear hnl2
                case' inr =>
                  obtain ⟨c0, c1⟩ := HA.out.leaf hx
                  have hi1 : (n : Int) < (l.length : Int) := by omega
                  clear hx hnl2
                all_goals
                  go_upto_region 15 with (at_builtin; refine wpList_append_lx lf_lays rfl (.tmp 88) (.tmp 94) 87 86 rfl Try.underlying87 lf_el rfl rfl Hs1.out rfl Hx1.out (by rw [htl]; omega) (by rw [htl]; omega) ?_; intro v1 w1 L1 h1 h2 h3; have HN1 := hid (Hupd1.out (rowR 86 2 v1 _ _) w1 L1 h1.out h2.out h3.out))
                  have HB1 := hid (HN1.out.mod ((Mod.refl [] w1).alloc (.cells #[.string sep, .int .u64 (pid : Nat)] 86)))
                  obtain ⟨Lt, hs2, upd2⟩ := HB1.out.first
                  have Hs2 := hid hs2
                  have Hupd2 := hid upd2
                  have Hone := hid (one_lf (sep, pid) (Blk.new w1 _ 86))
                  obtain ⟨ea, ec, rfl⟩ := row_any HN1.out
                  clear hs2 upd2 h1 h2 h3
                  go_upto_region 16 with (at_builtin; refine wpList_append_lx lf_lays rfl (.tmp 96) (.tmp 100) 87 86 rfl Try.underlying87 lf_el rfl rfl Hs2.out rfl Hone.out (by rw [htl]; simp; omega) (by rw [htl]; simp; omega) ?_; intro v2 w2 L2 h1 h2 h3; have HN2 := hid (Hupd2.out (rowR 86 2 v2 _ _) w2 L2 h1.out h2.out h3.out))
                  have hN2 := HN2.out
                  have ee1 : 0 + (l.take n).length + [(sep, pid)].length = n + 1 := by rw [htl]; simp
                  have ee2 : ([] ++ flat lfC (l.take n)) ++ flat lfC [(sep, pid)] = flat lfC (l.take n ++ [(sep, pid)]) := by simp [flat]
                  rw [ee1, ee2] at hN2
                  obtain ⟨g2, cap2, hat2, hH2⟩ := hld_rf hN2.swap hp
                  obtain ⟨Lu, hs3, upd3⟩ := hN2.first
                  have Hs3 := hid hs3
                  have Hupd3 := hid upd3
                  obtain ⟨ea2, ec2, rfl⟩ := row_any hN2
                  have b2 := hat2.box.cell 0
                  have hbl2 := hat2.box.lt
                  simp only [List.getElem?_toArray, List.getElem?_cons_zero] at b2
                  have hncap2 : (n : Int) ≤ (cap2 : Int) := by have := hat2.room; omega
                  have hlcap2 : (l.length : Int) ≤ (cap2 : Int) := by have := hat2.room; omega
                  have Hx3 := hid (hat2.lx.drop (k := n) hnl (l.length - n) (cap2 - n) rfl)
                  rw [Nat.zero_add] at Hx3
                  have hdl : (l.drop n).length = l.length - n := List.length_drop
                  clear hs3 upd3 hat2 hH2 HB1 HN1 HN2 hN2 ee1 ee2 h1 h2 h3
                  rcases (by omega : cap2 = n ∨ n < cap2) with hcc | hcc
                  case' inl => subst hcc
                  case' inr => have hcc1 : ¬ cap2 = n := by omega
                  all_goals try (exfalso; omega)
                  all_goals
                    go_upto_region 17 with (at_builtin; first
                      | (refine wpList_append_lx lf_lays rfl (.tmp 103) (.tmp 109) 87 86 rfl Try.underlying87 lf_el rfl rfl Hs3.out rfl Hx3.out (by rw [hdl]; omega) (by rw [hdl]; omega) ?_; intro v3 w3 L3 h1 h2 h3; have HN3 := hid (Hupd3.out (rowR 86 2 v3 _ _) w3 L3 h1.out h2.out h3.out); obtain ⟨xa, xc, rfl⟩ := row_any HN3.out; obtain ⟨q, hq1, hq2, hq3, qa, qn, qc, rfl⟩ := hld_f0 HN3.out)
                      | (refine wpList_append_lx lf_lays rfl (.tmp 103) (.tmp 109) 87 86 rfl Try.underlying87 lf_el rfl rfl Hs3.out rfl ((HD.out.resolve_left (by omega)) _ _ _) (by rw [hdl]; omega) (by rw [hdl]; omega) ?_; intro v3 w3 L3 h1 h2 h3; have HN3 := hid (Hupd3.out (rowR 86 2 v3 _ _) w3 L3 h1.out h2.out h3.out); obtain ⟨xa, xc, rfl⟩ := row_any HN3.out; obtain ⟨q, hq1, hq2, hq3, qa, qn, qc, rfl⟩ := hld_f0 HN3.out)
                      | fail)
                    go_wp2
                    go_ret
                    rw [HN.out.1, HN.out.2]
                    refine ⟨rfl, ?_⟩
                    have hN3 := HN3.out
                    rw [hdl] at hN3
                    exact rf_store (m := putL l sep pid) hN3 (by rw [hput.out, List.length_append, List.length_cons, htl, hdl]; omega) (by rw [hput.out]; simp [flat])

/- Remove, Seps, Pids, Copy, New of the reference's fence: the walks. -/
theorem without_at {l : List Lf} (hok : OkL l) {sep : ByteArray} {i : Nat} {x : Lf} (hx : l[i]? = some x) (he : x.1 = sep) : without l sep = l.take i ++ l.drop (i + 1) := by
  obtain ⟨hi, e⟩ := List.getElem?_eq_some_iff.1 hx
  have el : l = l.take i ++ x :: l.drop (i + 1) := by rw [← e, ← List.drop_eq_getElem_cons hi, List.take_append_drop]
  have hs := hok.srt
  rw [el] at hs
  obtain ⟨h1, h2, h3⟩ := List.pairwise_append.1 hs
  have hA : without (l.take i) sep = l.take i := without_all fun y hy k => by
    have := h3 y hy x (by simp)
    rw [k, he] at this
    exact SL_irrefl _ this
  have hB : without (l.drop (i + 1)) sep = l.drop (i + 1) := without_all fun y hy k => by
    have := (List.pairwise_cons.1 h2).1 y hy
    rw [k, he] at this
    exact SL_irrefl _ this
  have key : without (l.take i ++ x :: l.drop (i + 1)) sep = l.take i ++ l.drop (i + 1) := by
    unfold without at hA hB ⊢
    rw [List.filter_append, List.filter_cons, if_neg (by simp [he]), hA, hB]
  rw [← el] at key
  exact key
theorem sepsL_at {l : List Lf} {i : Nat} {x : Lf} (hi : 0 < i) (hx : l[i]? = some x) : (sepsL l)[i - 1]? = some x.1 := by
  simp only [List.getElem?_drop, List.getElem?_map]
  rw [show 1 + (i - 1) = i by omega, hx]; rfl

set_option maxRecDepth 100000 in
set_option maxHeartbeats 4000000 in
theorem rrem_c (w0 : World) (L0 : List Nat) (w : World) (rb : Nat) (l : List Lf) (sep : ByteArray) (U : Res) [Keep U] (h : Hld w0 L0 (star (rfR rb l) U) w) (hok : OkL l) :
    Calls Try.prog 52 #[.pointer (some ⟨rb, 0, none⟩), .string sep] w fun e w' => e = .returned (.int .i64 (remAnsL l sep : Nat)) ∧ Hld w0 L0 (star (rfR rb (remLL l sep)) U) w' := by
  have Hh := hid h
  have Hok := hid hok
  have hl := hok.len
  have hp := hok.pos
  obtain ⟨g, cap, hat, hH⟩ := hld_rf h hp
  have b0 := hat.box.cell 0
  have f0 := hat.box.free 0
  have hbl := hat.box.lt
  simp only [List.getElem?_toArray, List.getElem?_cons_zero] at b0
  have HA := hid hat
  clear h hok hat hH
  go_enter Try.func52, Try.ntmps52
  go_wp2
  go_loopg [5] l.length (fun g' q wr => ∃ i : Nat, q = .int .i64 i ∧ i + g' = l.length + 1 ∧ 1 ≤ i ∧ i ≤ l.length ∧ Hid (∀ j x, 0 < j → j < i → l[j]? = some x → x.1 ≠ sep) ∧ Hid (w = wr))
  · exact ⟨1, rfl, by omega, by omega, by omega, hid fun j x h1 h2 => by omega, rfl⟩
  · obtain ⟨i, rfl, hig, hi1, hil, hno, hw⟩ := hrel
    obtain rfl := hw.out
    clear hw
    by_cases hlt : i < l.length
    · obtain ⟨x, hx⟩ : ∃ x, l[i]? = some x := ⟨_, List.getElem?_eq_getElem hlt⟩
      obtain ⟨c0, c1⟩ := HA.out.leaf hx
      have hii : (i : Int) < (l.length : Int) := by omega
      have hi0 : (0 : Int) ≤ (i : Int) := by omega
      have Hx := hid hx
      obtain ⟨xs, xp⟩ := x
      dsimp only at c0 c1
      by_cases hse : xs = sep
      · have hb2 : (xs.toList == sep.toList) = true := by subst hse; simp
        have hb3 : xs.toList = sep.toList := by rw [hse]
        have hwo := hid (without_at Hok.out hx hse)
        have hm : sep ∈ sepsL l := by
          have := List.mem_of_getElem? (sepsL_at hi1 hx)
          dsimp only at this
          rw [hse] at this
          exact this
        have HN := hid (And.intro (show remAnsL l sep = 0 from if_pos hm) (show remLL l sep = without l sep from if_pos hm))
        have HH1 := hid (hld_nilrow (E := 86) (sz := 2) Hh.out)
        obtain ⟨Ls, hs1, upd1⟩ := HH1.out.first
        have Hs1 := hid hs1
        have Hupd1 := hid upd1
        have Hx1 := hid (HA.out.lx.take (m := i) hil cap)
        have hncap : (i : Int) ≤ (cap : Int) := by have := HA.out.room; omega
        have hnl1 : (i : Int) ≤ (l.length : Int) := by omega
        have htl : (l.take i).length = i := by rw [List.length_take]; omega
        clear hse hm hx hs1 upd1 hno
        go_upto_region 7 with (at_builtin; refine wpList_append_lx lf_lays rfl (.tmp 26) (.tmp 32) 87 86 rfl Try.underlying87 lf_el rfl rfl Hs1.out rfl Hx1.out (by rw [htl]; omega) (by rw [htl]; omega) ?_; intro v1 w1 L1 h1 h2 h3; have HN1 := hid (Hupd1.out (rowR 86 2 v1 _ _) w1 L1 h1.out h2.out h3.out))
        have hN2 := HN1.out
        have ee1 : 0 + (l.take i).length = i := by rw [htl]; omega
        rw [ee1, List.nil_append] at hN2
        obtain ⟨g2, cap2, hat2, hH2⟩ := hld_rf hN2.swap hp
        obtain ⟨Lu, hs3, upd3⟩ := hN2.first
        have Hs3 := hid hs3
        have Hupd3 := hid upd3
        obtain ⟨ea2, ec2, rfl⟩ := row_any hN2
        have b2 := hat2.box.cell 0
        have hbl2 := hat2.box.lt
        simp only [List.getElem?_toArray, List.getElem?_cons_zero] at b2
        have hlcap2 : (l.length : Int) ≤ (cap2 : Int) := by have := hat2.room; omega
        have hi2 : (i : Int) + 1 ≤ (l.length : Int) := by omega
        have hi3 : (i : Int) + 1 ≤ (cap2 : Int) := by omega
        have Hx3 := hid (hat2.lx.drop (k := i + 1) (by omega) (l.length - (i + 1)) (cap2 - (i + 1)) rfl)
        rw [Nat.zero_add] at Hx3
        have HD : Hid (i + 1 < l.length ∨ ∀ (W : World) (a : Option Addr) (c : Nat), Lx 2 lfC W (.slice a (l.length - (i + 1)) c) (l.drop (i + 1))) := by
          rcases Nat.lt_or_ge (i + 1) l.length with h | h
          · exact Or.inl h
          · exact Or.inr fun W a c => Lx.none a _ _ (by rw [List.length_drop]; omega) (by omega)
        have hdl : (l.drop (i + 1)).length = l.length - (i + 1) := List.length_drop
        clear hs3 upd3 hat2 hH2 HN1 hN2 ee1 h1 h2 h3
        rcases (by omega : cap2 = i + 1 ∨ i + 1 < cap2) with hcc | hcc
        case' inl => subst hcc
        case' inr => have hcc1 : ¬ cap2 = i + 1 := by omega
        all_goals
          go_upto_region 8 with (at_builtin; first
            | (refine wpList_append_lx lf_lays rfl (.tmp 35) (.tmp 42) 87 86 rfl Try.underlying87 lf_el rfl rfl Hs3.out rfl Hx3.out (by rw [hdl]; omega) (by rw [hdl]; omega) ?_; intro v3 w3 L3 h1 h2 h3; have HN3 := hid (Hupd3.out (rowR 86 2 v3 _ _) w3 L3 h1.out h2.out h3.out); obtain ⟨xa, xc, rfl⟩ := row_any HN3.out; obtain ⟨q, hq1, hq2, hq3, qa, qn, qc, rfl⟩ := hld_f0 HN3.out)
            | (refine wpList_append_lx lf_lays rfl (.tmp 35) (.tmp 42) 87 86 rfl Try.underlying87 lf_el rfl rfl Hs3.out rfl ((HD.out.resolve_left (by omega)) _ _ _) (by rw [hdl]; omega) (by rw [hdl]; omega) ?_; intro v3 w3 L3 h1 h2 h3; have HN3 := hid (Hupd3.out (rowR 86 2 v3 _ _) w3 L3 h1.out h2.out h3.out); obtain ⟨xa, xc, rfl⟩ := row_any HN3.out; obtain ⟨q, hq1, hq2, hq3, qa, qn, qc, rfl⟩ := hld_f0 HN3.out)
            | fail)
          go_wp2
          go_ret
          rw [HN.out.1, HN.out.2]
          refine ⟨rfl, ?_⟩
          have hN3 := HN3.out
          rw [hdl] at hN3
          exact rf_store (m := without l sep) hN3 (by rw [hwo.out, List.length_append, htl, hdl]) (by rw [hwo.out]; simp [flat])
      · have hb2 : (xs.toList == sep.toList) = false := eqS_no hse
        have hb3 : ¬ xs.toList = sep.toList := by simpa using hb2
        have HS := hid hse
        clear hse hx
        go_wp2
        go_roundg (gk - 1)
        case measure => omega
        case rel => exact ⟨i + 1, by go_num, by omega, by omega, by omega, hid fun j y h1 h2 hy => by
          rcases (by omega : j < i ∨ j = i) with h | rfl
          · exact hno.out j y h1 h hy
          · rw [Hx.out] at hy; cases hy; exact HS.out, rfl⟩
    · have hii : ¬ (i : Int) < (l.length : Int) := by omega
      have hm : sep ∉ sepsL l := fun hm => by
        obtain ⟨k, hk⟩ := List.mem_iff_getElem?.1 hm
        simp only [List.getElem?_drop, List.getElem?_map, Option.map_eq_some_iff] at hk
        obtain ⟨x, hx, e⟩ := hk
        have := (List.getElem?_eq_some_iff.1 hx).1
        exact hno.out (1 + k) x (by omega) (by omega) hx e
      have HN := hid (And.intro (show remAnsL l sep = 5 from if_neg hm) (show remLL l sep = l from if_neg hm))
      clear hm hno hlt
      go_wp2
      go_ret
      exact ⟨by rw [HN.out.1]; rfl, by rw [HN.out.2]; exact Hh.out⟩

theorem rnew_nil (w : World) : Calls Try.prog 24 #[.int .u64 0] w fun e w' => e = .returned (.pointer none) ∧ w = w' := by
  go_enter Try.func24, Try.ntmps24
  go_wp2
  go_ret
  exact ⟨rfl, rfl⟩
set_option maxRecDepth 100000 in
theorem rnew_c (w0 : World) (L0 : List Nat) (w : World) (p : Nat) (U : Res) [Keep U] (h : Hld w0 L0 U w) (hp : p ≠ 0) : Calls Try.prog 24 #[.int .u64 (p : Nat)] w fun e w' => ∃ rb, e = .returned (.pointer (some ⟨rb, 0, none⟩)) ∧ Hld w0 L0 (star (rfR rb [(mt, p)]) U) w' := by
  have h0 : ((p : Int) == 0) = false := beq_eq_false_iff_ne.2 (by omega)
  have ea : ∀ (w : World) (o : Obj), (w.alloc o).heap.size = w.heap.size + 1 := fun w o => by simp
  have H1' := ((h.box #[.string mt, .int .u64 (p : Nat)] 86).box #[.slice (some ⟨w.heap.size, 0, none⟩) 1 1] 89)
  rw [ea] at H1'
  have H1 := hid H1'
  clear h hp ea H1'
  go_enter Try.func24, Try.ntmps24
  go_wp2
  go_ret
  refine ⟨_, rfl, ?_⟩
  refine H1.out.ent ((Ent.under _ (Ent.left ?_ U)).trans (ent_rfR _ [(mt, p)] _ 1 _ rfl rfl U))
  rintro W L ⟨hb, rfl⟩
  exact ⟨[w.heap.size], ⟨rfl, Or.inr ⟨w.heap.size, 1, _, rfl, rfl, hb, Nat.le_refl _, by simp [maxLen], (by show 1 * 2 ≤ 2; omega), rfl⟩⟩, fun _ h => h⟩

set_option maxRecDepth 100000 in
set_option maxHeartbeats 2000000 in
theorem rseps_c (w0 : World) (L0 : List Nat) (w : World) (rb : Nat) (l : List Lf) (U : Res) [Keep U] (h : Hld w0 L0 (star (rfR rb l) U) w) (hok : OkL l) :
    Calls Try.prog 46 #[.pointer (some ⟨rb, 0, none⟩)] w fun e w' => ∃ v, e = .returned v ∧ Hld w0 L0 (star (rowR 9 1 v (sepsL l).length (flat stC (sepsL l))) (star (rfR rb l) U)) w' := by
  have hl := hok.len
  have hp := hok.pos
  have H1 := hid (hld_nilrow (E := 9) (sz := 1) h)
  obtain ⟨g0, cap0, hat0, _⟩ := hld_rf h hp
  have b0 := hat0.box.cell 0
  have hbl := hat0.box.lt
  simp only [List.getElem?_toArray, List.getElem?_cons_zero] at b0
  have hlen : (sepsL l).length = l.length - 1 := by simp
  have Hlen := hid hlen
  clear h hok hat0 hlen
  go_enter Try.func46, Try.ntmps46
  go_wp2
  clear b0 hbl
  go_loopg [3, 4] l.length (fun g' p q wr => ∃ i : Nat, q = .int .i64 i ∧ i + g' = l.length + 1 ∧ 1 ≤ i ∧ i ≤ l.length ∧ Hid (Hld w0 L0 (star (rowR 9 1 p (i - 1) (flat stC ((sepsL l).take (i - 1)))) (star (rfR rb l) U)) wr))
  · exact ⟨1, rfl, by omega, by omega, by omega, H1⟩
  · obtain ⟨i, rfl, hig, hi1, hil, hT⟩ := hrel
    obtain ⟨g, cap, hat, _⟩ := hld_rf hT.out.swap hp
    have b0 := hat.box.cell 0
    have hbl := hat.box.lt
    simp only [List.getElem?_toArray, List.getElem?_cons_zero] at b0
    by_cases hlt : i < l.length
    · obtain ⟨x, hx⟩ : ∃ x, l[i]? = some x := ⟨_, List.getElem?_eq_getElem hlt⟩
      obtain ⟨c0, c1⟩ := hat.leaf hx
      have hii : (i : Int) < (l.length : Int) := by omega
      have hi0 : (0 : Int) ≤ (i : Int) := by omega
      have hsx := hid (sepsL_at hi1 hx)
      obtain ⟨xs, xp⟩ := x
      dsimp only at c0 c1 hsx
      have HB := hid (hT.out.mod ((Mod.refl [] wr).alloc (.cells #[.string xs] 9)))
      obtain ⟨Ls, hs1, upd1⟩ := HB.out.first
      have Hs1 := hid hs1
      have Hupd1 := hid upd1
      have Hone := hid (one_of (f := stC) (x := xs) rfl (Blk.new wr _ 9))
      obtain ⟨ea, ec, rfl⟩ := row_any hT.out
      have hi60 : i ≤ 60 := by omega
      clear hx hs1 upd1 hat
      go_wp2_with (at_builtin; refine wpList_append_lx st_lays rfl (.tmp 14) (.tmp 23) 23 9 rfl Try.underlying23 sin_el rfl rfl Hs1.out rfl Hone.out (by simp; omega) (by simp; omega) ?_; intro v1 w1 L1 h1 h2 h3; have HN1 := hid (Hupd1.out (rowR 9 1 v1 _ _) w1 L1 h1.out h2.out h3.out))
      go_roundg (gk - 1)
      case measure => omega
      case rel =>
        refine ⟨i + 1, by go_num, by omega, by omega, by omega, ?_⟩
        have h := HN1.out
        have e1 : i - 1 + [xs].length = i + 1 - 1 := by simp; omega
        have e2 : flat stC ((sepsL l).take (i - 1)) ++ flat stC [xs] = flat stC ((sepsL l).take (i + 1 - 1)) := by
          rw [show i + 1 - 1 = (i - 1) + 1 by omega, List.take_add_one, hsx.out]
          simp [flat]
        rw [e1, e2] at h
        exact h
    · have hii : ¬ (i : Int) < (l.length : Int) := by omega
      have hil2 : i - 1 = (sepsL l).length := by rw [Hlen.out]; omega
      have h := hT.out
      rw [hil2, List.take_length] at h
      have HF := hid h
      clear hil2 h hT hat hlt
      obtain ⟨pa, pc, rfl⟩ := row_any HF.out
      go_wp2
      go_ret
      refine ⟨_, rfl, ?_⟩
      simpa using HF.out
set_option maxRecDepth 100000 in
set_option maxHeartbeats 2000000 in
theorem rpids_c (w0 : World) (L0 : List Nat) (w : World) (rb : Nat) (l : List Lf) (U : Res) [Keep U] (h : Hld w0 L0 (star (rfR rb l) U) w) (hok : OkL l) :
    Calls Try.prog 47 #[.pointer (some ⟨rb, 0, none⟩)] w fun e w' => ∃ v, e = .returned v ∧ Hld w0 L0 (star (rowR 26 1 v (pidsL l).length (flat idC (pidsL l))) (star (rfR rb l) U)) w' := by
  have hl := hok.len
  have hp := hok.pos
  have H1 := hid (hld_nilrow (E := 26) (sz := 1) h)
  obtain ⟨g0, cap0, hat0, _⟩ := hld_rf h hp
  have b0 := hat0.box.cell 0
  have hbl := hat0.box.lt
  simp only [List.getElem?_toArray, List.getElem?_cons_zero] at b0
  have hlen : (pidsL l).length = l.length := by simp
  have Hlen := hid hlen
  clear h hok hat0 hlen
  go_enter Try.func47, Try.ntmps47
  go_wp2
  clear b0 hbl
  go_loopg [3, 4] l.length (fun g' p q wr => ∃ i : Nat, q = .int .i64 i ∧ i + g' = l.length ∧ i ≤ l.length ∧ Hid (Hld w0 L0 (star (rowR 26 1 p i (flat idC ((pidsL l).take i))) (star (rfR rb l) U)) wr))
  · exact ⟨0, rfl, by omega, by omega, H1⟩
  · obtain ⟨i, rfl, hig, hil, hT⟩ := hrel
    obtain ⟨g, cap, hat, _⟩ := hld_rf hT.out.swap hp
    have b0 := hat.box.cell 0
    have hbl := hat.box.lt
    simp only [List.getElem?_toArray, List.getElem?_cons_zero] at b0
    by_cases hlt : i < l.length
    · obtain ⟨x, hx⟩ : ∃ x, l[i]? = some x := ⟨_, List.getElem?_eq_getElem hlt⟩
      obtain ⟨c0, c1⟩ := hat.leaf hx
      have hii : (i : Int) < (l.length : Int) := by omega
      have hi0 : (0 : Int) ≤ (i : Int) := by omega
      have hsx : Hid ((pidsL l)[i]? = some x.2) := by show _ = _; simp only [List.getElem?_map]; rw [hx]; rfl
      obtain ⟨xs, xp⟩ := x
      dsimp only at c0 c1 hsx
      have HB := hid (hT.out.mod ((Mod.refl [] wr).alloc (.cells #[.int .u64 (xp : Nat)] 26)))
      obtain ⟨Ls, hs1, upd1⟩ := HB.out.first
      have Hs1 := hid hs1
      have Hupd1 := hid upd1
      have Hone := hid (one_of (f := idC) (x := xp) rfl (Blk.new wr _ 26))
      obtain ⟨ea, ec, rfl⟩ := row_any hT.out
      have hi60 : i ≤ 60 := by omega
      clear hx hs1 upd1 hat
      go_wp2_with (at_builtin; refine wpList_append_lx id_lays rfl (.tmp 14) (.tmp 23) 33 26 rfl Try.underlying33 uin_el rfl rfl Hs1.out rfl Hone.out (by simp; omega) (by simp; omega) ?_; intro v1 w1 L1 h1 h2 h3; have HN1 := hid (Hupd1.out (rowR 26 1 v1 _ _) w1 L1 h1.out h2.out h3.out))
      go_roundg (gk - 1)
      case measure => omega
      case rel =>
        refine ⟨i + 1, by go_num, by omega, by omega, ?_⟩
        have h := HN1.out
        have e1 : i + [xp].length = i + 1 := by simp
        have e2 : flat idC ((pidsL l).take i) ++ flat idC [xp] = flat idC ((pidsL l).take (i + 1)) := by
          rw [List.take_add_one, hsx.out]
          simp [flat]
        rw [e1, e2] at h
        exact h
    · have hii : ¬ (i : Int) < (l.length : Int) := by omega
      have hil2 : i = (pidsL l).length := by rw [Hlen.out]; omega
      have h := hT.out
      rw [hil2, List.take_length] at h
      have HF := hid h
      clear hil2 h hT hat hlt
      obtain ⟨pa, pc, rfl⟩ := row_any HF.out
      go_wp2
      go_ret
      refine ⟨_, rfl, ?_⟩
      simpa using HF.out

set_option maxRecDepth 100000 in
set_option maxHeartbeats 2000000 in
theorem rcopy_c (w0 : World) (L0 : List Nat) (w : World) (rb : Nat) (l : List Lf) (U : Res) [Keep U] (h : Hld w0 L0 (star (rfR rb l) U) w) (hok : OkL l) :
    Calls Try.prog 26 #[.pointer (some ⟨rb, 0, none⟩)] w fun e w' => ∃ sb, e = .returned (.pointer (some ⟨sb, 0, none⟩)) ∧ Hld w0 L0 (star (rfR sb l) (star (rfR rb l) U)) w' := by
  have hl := hok.len
  have hp := hok.pos
  have H1 := hid (hld_nilrow (E := 86) (sz := 2) h)
  obtain ⟨g0, cap0, hat0, _⟩ := hld_rf h hp
  have b0 := hat0.box.cell 0
  have hbl := hat0.box.lt
  simp only [List.getElem?_toArray, List.getElem?_cons_zero] at b0
  obtain ⟨Ls, hs1, upd1⟩ := H1.out.first
  have Hs1 := hid hs1
  have Hupd1 := hid upd1
  have Hx := hid hat0.lx
  clear h hok hat0 hs1 upd1
  go_enter Try.func26, Try.ntmps26
  go_wp2_with (at_builtin; refine wpList_append_lx lf_lays rfl (.tmp 4) (.tmp 8) 87 86 rfl Try.underlying87 lf_el rfl rfl Hs1.out rfl Hx.out (by omega) (by omega) ?_; intro v1 w1 L1 h1 h2 h3; have HN1 := hid (Hupd1.out (rowR 86 2 v1 _ _) w1 L1 h1.out h2.out h3.out); obtain ⟨xa, xc, rfl⟩ := row_any HN1.out)
  go_ret
  refine ⟨_, rfl, ?_⟩
  have h := HN1.out.box #[.slice xa (0 + l.length) xc] 89
  rw [Nat.zero_add, List.nil_append] at h
  exact h.ent (ent_rfR _ l _ l.length _ rfl rfl _)

/- Image and Parse of the reference's fence: the walks. -/
theorem putB_leaf {s : ByteArray} {x : Lf} (h : x.1 ≠ mt) : putB s x = s ++ textB x.1 ++ numB x.2 := by unfold putB; rw [if_neg h]
theorem imgA_take {l : List Lf} {n i : Nat} {x : Lf} (hx : l[i]? = some x) : imgA n (l.take (i + 1)) = putB (imgA n (l.take i)) x := by
  rw [List.take_add_one, hx]
  exact imgA_snoc n _ x
set_option maxRecDepth 100000 in
set_option maxHeartbeats 2000000 in
theorem rimage_c (w : World) (rb : Nat) (l : List Lf) (g cap : Nat) (h : RfAt w rb l g cap) (hok : OkL l) :
    Calls Try.prog 48 #[.pointer (some ⟨rb, 0, none⟩)] w fun e w' => e = .returned (.string (imgB l)) ∧ Mod [] w w' := by
  have H := hid h
  have Hok := hid hok
  have hl := hok.len
  have hp := hok.pos
  have b0 := h.box.cell 0
  have hbl := h.box.lt
  simp only [List.getElem?_toArray, List.getElem?_cons_zero] at b0
  obtain ⟨x0, hx0⟩ : ∃ x0, l[0]? = some x0 := ⟨_, List.getElem?_eq_getElem hp⟩
  obtain ⟨_, c1⟩ := h.leaf hx0
  rw [show 0 * 2 + 1 = 1 from rfl] at c1
  have hx0m : x0.1 = mt := by
    obtain ⟨q, r, e⟩ := hok.head
    rw [e] at hx0
    cases hx0
    rfl
  have hsm0 := hok.small x0 (List.mem_of_getElem? hx0)
  have hI1 : imgA l.length (l.take 1) = numB l.length ++ numB x0.2 := by
    rw [imgA_take hx0]
    unfold putB
    rw [if_pos hx0m]
    rfl
  have HI1 := hid hI1
  have hw : IntKind.u64.wrap ((l.length : Nat) : Int) = ((l.length : Nat) : Int) := by rw [IntKind.wrap_u64]; omega
  have hp1 : (0 : Int) < (l.length : Int) := by omega
  have HP1 : Hid (∀ X, Mod [] w X → Calls Try.prog 65 #[.string ⟨#[]⟩, .int .u64 (l.length : Nat)] X fun e w' => e = .returned (.string (numB l.length)) ∧ Mod [] X w') := fun X _ => (rput_c ⟨#[]⟩ l.length X (by decide) (by omega)).mono fun e w' hh => ⟨hh.1.trans (by rw [show (⟨#[]⟩ : ByteArray) ++ (⟨(Wire.digits l.length).toArray⟩ : ByteArray) = numB l.length from mt_ba _]), hh.2⟩
  have hz1 := numB_size l.length (by omega)
  have HP2 : Hid (∀ X, Mod [] w X → Calls Try.prog 65 #[.string (numB l.length), .int .u64 (x0.2 : Nat)] X fun e w' => e = .returned (.string (numB l.length ++ numB x0.2)) ∧ Mod [] X w') := fun X _ => rput_c (numB l.length) x0.2 X (by omega) hsm0.2.2
  obtain ⟨xs0, xp0⟩ := x0
  dsimp only at c1 HI1 HP2
  clear h hok hx0 hx0m hsm0 hI1 hz1
  go_enter Try.func48, Try.ntmps48
  go_upto_region 1 with (fail)
  have hMM := Mod.refl [] w
  go_region_held3 (fun X => Mod [] w X ∧ X.cell? ⟨rb, 0, none⟩ = some (.slice (some ⟨g, 0, none⟩) l.length cap) ∧ X.cell? ⟨g, 1, none⟩ = some (.int .u64 (xp0 : Nat)))
    (first
      | exact ⟨hMM.drew, b0, c1⟩
      | assumption
      | exact ⟨Mod.tr (And.left ‹Mod [] w _ ∧ _›) hm, hm.cellSome (And.left (And.right ‹Mod [] w _ ∧ _›)) (by simp), hm.cellSome (And.right (And.right ‹Mod [] w _ ∧ _›)) (by simp)⟩
      | fail)
    (first
      | (go_at_call 65; with_reducible refine (HP1.out _ (And.left ‹Mod [] w _ ∧ _›)).mono ?_; rintro e w' ⟨rfl, hm⟩)
      | (go_at_call 65; with_reducible refine (HP2.out _ (And.left ‹Mod [] w _ ∧ _›)).mono ?_; rintro e w' ⟨rfl, hm⟩)
      | fail)
  have hM1 := hid (And.left ‹Mod [] w _ ∧ _›)
  rw [← HI1.out]
  clear b0 c1 HP1 HP2 HI1
  go_wp2
  go_loopg [3, 4] l.length (fun g' p q wr => ∃ i : Nat, p = .string (imgA l.length (l.take i)) ∧ q = .int .i64 i ∧ i + g' = l.length + 1 ∧ 1 ≤ i ∧ i ≤ l.length ∧ Hid (Mod [] w wr))
  · exact ⟨1, rfl, rfl, by omega, by omega, by omega, hM1⟩
  · clear hM1
    obtain ⟨i, rfl, rfl, hig, hi1, hil, hM⟩ := hrel
    have hat := H.out.mod hM.out
    have b0 := hat.box.cell 0
    have hbl := hat.box.lt
    simp only [List.getElem?_toArray, List.getElem?_cons_zero] at b0
    by_cases hlt : i < l.length
    · obtain ⟨x, hx⟩ : ∃ x, l[i]? = some x := ⟨_, List.getElem?_eq_getElem hlt⟩
      obtain ⟨c0, c1⟩ := hat.leaf hx
      have hii : (i : Int) < (l.length : Int) := by omega
      have hi0 : (0 : Int) ≤ (i : Int) := by omega
      have hsm := Hok.out.small x (List.mem_of_getElem? hx)
      have hmx : x.1 ≠ mt := by
        obtain ⟨q, r, e⟩ := Hok.out.head
        have hr : ∀ y ∈ r, y.1 ≠ mt := (e ▸ Hok.out).rest
        refine hr x ?_
        rw [e] at hx
        obtain ⟨k, rfl⟩ : ∃ k, i = k + 1 := ⟨i - 1, by omega⟩
        exact List.mem_of_getElem? (by simpa using hx)
      have hst := hid ((imgA_take (n := l.length) hx).trans (putB_leaf hmx))
      have hz : (imgA l.length (l.take i)).size ≤ 10000 := by
        have h1 := imgA_size (n := l.length) (by omega) (l := l.take i) (fun y hy => Hok.out.small y (List.mem_of_mem_take hy))
        have h2 : (l.take i).length ≤ 60 := by rw [List.length_take]; omega
        omega
      obtain ⟨I, hI⟩ : ∃ I, I = imgA l.length (l.take i) := ⟨_, rfl⟩
      rw [← hI] at hst hz ⊢
      obtain ⟨xs, xp⟩ := x
      dsimp only at c0 c1 hst hsm hmx
      have htz := textB_size xs hsm.1
      have hsz : xs.size ≤ 16 := hsm.1
      have HP1 : Hid (∀ X, Mod [] w X → Calls Try.prog 66 #[.string I, .string xs] X fun e w' => e = .returned (.string (I ++ textB xs)) ∧ Mod [] X w') := fun X _ => rputText_c I xs X (by omega) (by omega)
      have HP2 : Hid (∀ X, Mod [] w X → Calls Try.prog 65 #[.string (I ++ textB xs), .int .u64 (xp : Nat)] X fun e w' => e = .returned (.string (I ++ textB xs ++ numB xp)) ∧ Mod [] X w') := fun X _ => rput_c (I ++ textB xs) xp X (by rw [ByteArray.size_append]; omega) hsm.2.2
      have hMM := hM.out
      clear hx hat hI hz htz hsz
      go_upto_region 5 with (fail)
      go_region_held3 (fun X => Mod [] w X ∧ X.cell? ⟨rb, 0, none⟩ = some (.slice (some ⟨g, 0, none⟩) l.length cap) ∧ X.cell? ⟨g, i * 2, none⟩ = some (.string xs) ∧ X.cell? ⟨g, i * 2 + 1, none⟩ = some (.int .u64 (xp : Nat)))
        (first
          | exact ⟨hMM.drew, b0, c0, c1⟩
          | assumption
          | exact ⟨Mod.tr (And.left ‹Mod [] w _ ∧ _›) hm, hm.cellSome (And.left (And.right ‹Mod [] w _ ∧ _›)) (by simp), hm.cellSome (And.left (And.right (And.right ‹Mod [] w _ ∧ _›))) (by simp), hm.cellSome (And.right (And.right (And.right ‹Mod [] w _ ∧ _›))) (by simp)⟩
          | fail)
        (first
          | (go_at_call 66; with_reducible refine (HP1.out _ (And.left ‹Mod [] w _ ∧ _›)).mono ?_; rintro e w' ⟨rfl, hm⟩)
          | (go_at_call 65; with_reducible refine (HP2.out _ (And.left ‹Mod [] w _ ∧ _›)).mono ?_; rintro e w' ⟨rfl, hm⟩)
          | fail)
      have hM1 := hid (And.left ‹Mod [] w _ ∧ _›)
      go_wp2
      go_roundg (gk - 1)
      case measure => omega
      case rel => exact ⟨i + 1, by rw [hst.out], by go_num, by omega, by omega, by omega, hM1⟩
    · have hii : ¬ (i : Int) < (l.length : Int) := by omega
      have hil2 : imgA l.length (l.take i) = imgB l := by rw [List.take_of_length_le (by omega)]
      rw [hil2]
      clear hil2 hlt
      go_wp2
      go_ret
      exact ⟨rfl, hM.out⟩
def rrR (b : Nat) (st : Option ByteArray) : Res := fun w L => Rd 82 w b st ∧ L = [b]
instance (b : Nat) (st : Option ByteArray) : Keep (rrR b st) where
  lt := by rintro w L ⟨h, rfl⟩ k hk; simp at hk; subst hk; exact h.1.lt
  mod := by rintro w w' L M ⟨h, rfl⟩ hm hd; exact ⟨h.mod hm (hd _ (by simp)), rfl⟩
section
variable {w0 w : World} {L0 : List Nat} {b : Nat} {st : Option ByteArray} {U : Res} [Keep U]
theorem rnum_h (h : Hld w0 L0 (star (rrR b st) U) w) : Calls Try.prog 41 #[.pointer (some ⟨b, 0, none⟩)] w fun e w' => e = .returned (.int .u64 (numOf st).1) ∧ Hld w0 L0 (star (rrR b (numOf st).2) U) w' := by
  obtain ⟨L, ⟨h1, rfl⟩, h2⟩ := h.first
  exact (rnum_c _ b st w h1).mono fun e w' g => ⟨g.1, h2 _ _ [b] ⟨g.2.1, rfl⟩ g.2.2 (by simp)⟩
theorem rtext_h (h : Hld w0 L0 (star (rrR b st) U) w) : Calls Try.prog 42 #[.pointer (some ⟨b, 0, none⟩)] w fun e w' => e = .returned (.string (textOf st).1) ∧ Hld w0 L0 (star (rrR b (textOf st).2) U) w' := by
  obtain ⟨L, ⟨h1, rfl⟩, h2⟩ := h.first
  exact (rtext_c _ b st w h1).mono fun e w' g => ⟨g.1, h2 _ _ [b] ⟨g.2.1, rfl⟩ g.2.2 (by simp)⟩
theorem rok_h (h : Hld w0 L0 (star (rrR b st) U) w) : Calls Try.prog 43 #[.pointer (some ⟨b, 0, none⟩)] w fun e w' => e = .returned (.bool st.isSome) ∧ w = w' := by
  obtain ⟨L, h1, _⟩ := h.res
  exact rok_c _ b st w h1
theorem rend_h (h : Hld w0 L0 (star (rrR b st) U) w) : Calls Try.prog 45 #[.pointer (some ⟨b, 0, none⟩)] w fun e w' => e = .returned (.bool (atEnd st)) ∧ w = w' := by
  obtain ⟨L, h1, _⟩ := h.res
  exact rend_c _ b st w h1
end

/- Parse of the reference's fence: the walk. -/
/-- What Parse gives back. -/
def RParseG (s : ByteArray) (w0 : World) (L0 : List Nat) (U : Res) (e : Ending) (w' : World) : Prop :=
  (parseL s = none ∧ e = .returned (.tuple #[.pointer none, .int .i64 4]) ∧ Hld w0 L0 U w') ∨
  ∃ fb l, parseL s = some l ∧ OkL l ∧ e = .returned (.tuple #[.pointer (some ⟨fb, 0, none⟩), .int .i64 0]) ∧ Hld w0 L0 (star (rfR fb l) U) w'

set_option maxRecDepth 100000 in
set_option maxHeartbeats 2000000 in
theorem rparse_c (w0 : World) (L0 : List Nat) (w : World) (s : ByteArray) (U : Res) [Keep U] (h : Hld w0 L0 U w) (hs : s.size ≤ 9223372036854775807) :
    Calls Try.prog 19 #[.string s] w (RParseG s w0 L0 U) := by
  have H := hid h
  clear h
  go_enter Try.func19, Try.ntmps19
  have H1 : Hld w0 L0 (star (rrR w.heap.size (some s)) U) (w.alloc (.cells #[.string s, .bool false] 82)) := H.out.made (L := [w.heap.size]) ⟨⟨Blk.new w _ _, hs⟩, rfl⟩ ((Mod.refl [] w).alloc _) (by simp)
  obtain ⟨rb, hrb⟩ : ∃ rb, rb = w.heap.size := ⟨_, rfl⟩
  rw [← hrb] at H1
  have H1 := hid H1
  have HRB := hid hrb
  clear H hrb
  go_wp2_with fail
  rw [← HRB.out]
  refine (rnum_h H1.out).mono ?_
  rintro e w2 ⟨rfl, H2⟩
  obtain ⟨n, hn⟩ : ∃ n, n = (numOf (some s)).1 := ⟨_, rfl⟩
  obtain ⟨st1, hst1⟩ : ∃ st1, st1 = (numOf (some s)).2 := ⟨_, rfl⟩
  have hnl : n < 18446744073709551616 := by rw [hn]; exact num_lt _
  rw [← hn]
  rw [← hst1] at H2
  have H2 := hid H2
  have Hn := hid (And.intro hn hst1)
  clear H1 hn hst1
  go_wp2_with fail
  refine (rnum_h H2.out).mono ?_
  rintro e w3 ⟨rfl, H3⟩
  obtain ⟨p, hp⟩ : ∃ p, p = (numOf st1).1 := ⟨_, rfl⟩
  obtain ⟨st2, hst2⟩ : ∃ st2, st2 = (numOf st1).2 := ⟨_, rfl⟩
  have hpl : p < 18446744073709551616 := by rw [hp]; exact num_lt _
  rw [← hp]
  rw [← hst2] at H3
  have H3 := hid H3
  have Hp : Hid (parseL s = if p = 0 ∨ n < 1 ∨ 60 < n then none else match rdAll (n - 1) st2 [(mt, p)] mt with
    | none => none
    | some (l, st) => if atEnd st = true then some l else none) := by
    show _ = _
    rw [hp, hst2, Hn.out.1, Hn.out.2]
    rfl
  clear H2 hp hst2 Hn
  by_cases hp0 : p = 0
  · subst hp0
    have Hno : Hid (parseL s = none) := by
      show _ = _
      rw [Hp.out, if_pos (Or.inl rfl)]
    go_wp2_with fail
    refine (rnew_nil w3).mono ?_
    rintro e w4 ⟨rfl, rfl⟩
    go_wp2
    go_ret2
    exact Or.inl ⟨Hno.out, rfl, H3.out.drop⟩
  · go_wp2_with fail
    refine (rnew_c w0 L0 w3 p (star (rrR rb st2) U) H3.out hp0).mono ?_
    rintro e w4 ⟨fb, rfl, H5⟩
    have H5 := hid H5
    clear H3
    by_cases hn1 : n < 1
    · have Hno : Hid (parseL s = none) := by
        show _ = _
        rw [Hp.out, if_pos (Or.inr (Or.inl hn1))]
      have hn0 : (n : Int) < 1 := by omega
      go_wp2
      go_ret2
      exact Or.inl ⟨Hno.out, rfl, H5.out.drop.drop⟩
    · by_cases hn6 : 60 < n
      · have Hno : Hid (parseL s = none) := by
          show _ = _
          rw [Hp.out, if_pos (Or.inr (Or.inr hn6))]
        have hn0 : ¬ (n : Int) < 1 := by omega
        have hn60 : 60 < (n : Int) := by omega
        go_wp2
        go_ret2
        exact Or.inl ⟨Hno.out, rfl, H5.out.drop.drop⟩
      · have hn0 : ¬ (n : Int) < 1 := by omega
        have hn60 : ¬ 60 < (n : Int) := by omega
        rw [if_neg (by omega)] at Hp
        go_wp2
        have hok0 := OkL.one hp0 hpl
        go_loopg [7, 8] (n - 1) (fun g la ic wr => ∃ (i : Nat) (last : ByteArray) (l : List Lf) (st : Option ByteArray), la = .string last ∧ ic = .int .u64 i ∧ i + g = n ∧ 1 ≤ i ∧
          Hid (rdAll (n - 1) st2 [(mt, p)] mt = rdAll g st l last) ∧ Hid (OkL l) ∧ Hid (Hld w0 L0 (star (rfR fb l) (star (rrR rb st) U)) wr))
        · exact ⟨1, mt, [(mt, p)], st2, rfl, rfl, by omega, by omega, rfl, hok0, H5.out⟩
        · obtain ⟨i, last, l, st, rfl, rfl, hi, hi1, hrd, hF, hH⟩ := hrel
          clear H5 hok0
          by_cases hlt : i < n
          · have hlt1 : (i : Int) < (n : Int) := by omega
            obtain ⟨k, rfl⟩ : ∃ k, gk = k + 1 := ⟨gk - 1, by omega⟩
            have hstep : rdAll (k + 1) st l last = if (numOf (textOf st).2).2.isSome = true ∧ SL last (textOf st).1 ∧ insAnsL l (textOf st).1 (numOf (textOf st).2).1 = 0 then rdAll k (numOf (textOf st).2).2 (putL l (textOf st).1 (numOf (textOf st).2).1) (textOf st).1 else none := rfl
            obtain ⟨sep, hsep⟩ : ∃ sep, sep = (textOf st).1 := ⟨_, rfl⟩
            obtain ⟨sta, hsta⟩ : ∃ sta, sta = (textOf st).2 := ⟨_, rfl⟩
            obtain ⟨pid, hpid⟩ : ∃ pid, pid = (numOf sta).1 := ⟨_, rfl⟩
            obtain ⟨stb, hstb⟩ : ∃ stb, stb = (numOf sta).2 := ⟨_, rfl⟩
            rw [← hsep, ← hsta, ← hpid, ← hstb] at hstep
            have hrd := hrd.out.trans hstep
            have hpl2 : pid < 18446744073709551616 := by rw [hpid]; exact num_lt _
            have hssz : sep.size ≤ 9223372036854775807 := by
              obtain ⟨L, hL⟩ := hH.out.swap.res
              have := text_le st
              rw [← hsep] at this
              exact Nat.le_trans this hL.1.2
            have hrd := hid hrd
            have Hst := hid (⟨hsep, hsta, hpid, hstb⟩ : _ ∧ _ ∧ _ ∧ _)
            clear hstep hsep hsta hpid hstb
            go_wp2_with fail
            refine (rtext_h hH.out.swap).mono ?_
            rintro e v1 ⟨rfl, G1⟩
            rw [← Hst.out.1]
            rw [← Hst.out.2.1] at G1
            have G1 := hid G1
            go_wp2_with fail
            refine (rnum_h G1.out).mono ?_
            rintro e v2 ⟨rfl, G2⟩
            rw [← Hst.out.2.2.1]
            rw [← Hst.out.2.2.2] at G2
            have hok := hid (rok_h G2)
            have G2 := hid G2
            clear G1 hH Hst
            cases stb with
            | none =>
              have Hno : Hid (parseL s = none) := by
                show _ = _
                rw [Hp.out, hrd.out, if_neg (by simp)]
              go_wp2_with fail
              refine hok.out.mono ?_
              rintro e v3 ⟨rfl, rfl⟩
              go_wp2
              go_ret2
              exact Or.inl ⟨Hno.out, rfl, G2.out.drop.drop⟩
            | some sb =>
              by_cases hls : SL last sep
              · have hne : sep ≠ last := fun e => by rw [e] at hls; exact SL_irrefl _ hls
                have hb1 : (sep.toList == last.toList) = false := eqS_no hne
                have hb3 : ¬ sep.toList = last.toList := by simpa using hb1
                have hb2 : Op.bytesLess sep.toList last.toList = false := blS_no (SL_asymm hls)
                have hins := hid (rins_c w0 L0 v2 fb l sep pid (star (rrR rb (some sb)) U) G2.out.swap hF.out hssz)
                have Hls := hid hls
                clear hls hne
                go_wp2_with fail
                refine hok.out.mono ?_
                rintro e v3 ⟨rfl, rfl⟩
                go_wp2_with fail
                refine hins.out.mono ?_
                rintro e v4 ⟨rfl, G3⟩
                have G3 := hid G3
                clear hins
                by_cases ha : insAnsL l sep pid = 0
                · have Hff : Hid (insLL l sep pid = putL l sep pid) := by show _ = _; unfold insLL; rw [if_pos ha]
                  have hrd2 : Hid (rdAll (n - 1) st2 [(mt, p)] mt = rdAll k (some sb) (putL l sep pid) sep) := by
                    show _ = _
                    rw [hrd.out, if_pos ⟨rfl, Hls.out, ha⟩]
                  have hok2 := hid (hF.out.put hpl2 ha)
                  rw [ha]
                  clear ha hrd
                  go_wp2
                  go_roundg k
                  case measure => omega
                  case rel =>
                    refine ⟨i + 1, sep, putL l sep pid, some sb, rfl, by go_num, by omega, by omega, hrd2, hok2, ?_⟩
                    have h := G3.out
                    rw [Hff.out] at h
                    exact h
                · have Hno : Hid (parseL s = none) := by
                    show _ = _
                    rw [Hp.out, hrd.out, if_neg (fun h => ha h.2.2)]
                  have ha1 : ((insAnsL l sep pid : Nat) : Int) ≠ 0 := by omega
                  have ha2 : (((insAnsL l sep pid : Nat) : Int) == 0) = false := beq_eq_false_iff_ne.2 ha1
                  clear ha
                  go_wp2
                  go_ret2
                  exact Or.inl ⟨Hno.out, rfl, G3.out.drop.drop⟩
              · have Hno : Hid (parseL s = none) := by
                  show _ = _
                  rw [Hp.out, hrd.out, if_neg (fun h => hls h.2.1)]
                rcases SL_tri sep last with h | h | h
                · have hb2 : Op.bytesLess sep.toList last.toList = true := blS_yes h
                  clear hls h
                  go_wp2_with fail
                  refine hok.out.mono ?_
                  rintro e v3 ⟨rfl, rfl⟩
                  go_wp2_with fail
                  go_ret2
                  exact Or.inl ⟨Hno.out, rfl, G2.out.drop.drop⟩
                · subst h
                  have hb2 : Op.bytesLess sep.toList sep.toList = false := blS_no (SL_irrefl _)
                  clear hls
                  go_wp2_with fail
                  refine hok.out.mono ?_
                  rintro e v3 ⟨rfl, rfl⟩
                  go_wp2_with fail
                  go_ret2
                  exact Or.inl ⟨Hno.out, rfl, G2.out.drop.drop⟩
                · exact absurd h hls
          · have hlt1 : ¬ (i : Int) < (n : Int) := by omega
            have hend := hid (rend_h hH.out.swap)
            have hg : gk = 0 := by omega
            subst hg
            have hrd2 : Hid (parseL s = if atEnd st = true then some l else none) := by
              show _ = _
              rw [Hp.out, hrd.out]
              rfl
            have hz : i = n := by omega
            subst hz
            clear hrd hlt
            go_wp2_with fail
            refine hend.out.mono ?_
            rintro e v1 ⟨rfl, rfl⟩
            cases hae : atEnd st with
            | true =>
              have Hs : Hid (parseL s = some l) := by show _ = _; rw [hrd2.out, hae]; rfl
              clear hae hrd2
              go_wp2
              go_ret2
              exact Or.inr ⟨fb, l, Hs.out, hF.out, rfl, hH.out.swap.drop⟩
            | false =>
              have Hs : Hid (parseL s = none) := by show _ = _; rw [hrd2.out, hae]; rfl
              clear hae hrd2
              go_wp2
              go_ret2
              exact Or.inl ⟨Hs.out, rfl, hH.out.drop.drop⟩

/- same: the walk; FenceReads. -/
theorem row_lxS {w0 w : World} {L0 : List Nat} {U : Res} {v : Value} {l : List ByteArray} (h : Hld w0 L0 (star (rowR 9 1 v l.length (flat stC l)) U) w) : Lx 1 stC w v l := by
  obtain ⟨L, hL⟩ := h.res
  exact Own.lx st_lays hL
set_option maxRecDepth 100000 in
set_option maxHeartbeats 4000000 in
theorem same_c (w0 : World) (L0 : List Nat) (w : World) (fb rb : Nat) (f : Fc) (l : List Lf) (U : Res) [Keep U] (h : Hld w0 L0 (star (feR fb f) (star (rfR rb l) U)) w) (hf : Fok f) (hl : f.lv = l) :
    Calls Try.prog 20 #[.pointer (some ⟨fb, 0, none⟩), .pointer (some ⟨rb, 0, none⟩)] w fun e w' => e = .returned (.bool true) ∧ Hld w0 L0 (star (feR fb f) (star (rfR rb l) U)) w' := by
  have H := hid h
  have HF := hid hf
  have hok : OkL l := by rw [← hl]; exact hf.ok
  have HOK := hid hok
  have HL := hid hl
  have hl60 : (sepsL l).length ≤ 1000 := by have := hok.len; simp; omega
  have HL6 := hid hl60
  clear h hf hok hl hl60
  go_enter Try.func20, Try.ntmps20
  go_wp2_with fail
  refine (seps_h H.out HF.out).mono ?_
  rintro e w1 ⟨v1, rfl, Ha⟩
  rw [HL.out] at Ha
  have Ha := hid (Ha.ent (ent_pull3 _ _ _ _))
  clear H
  go_wp2_with fail
  refine (rseps_c w0 L0 w1 rb l _ Ha.out HOK.out).mono ?_
  rintro e w2 ⟨v2, rfl, Hb⟩
  have Hb := hid Hb
  clear Ha
  have hss := hid (texts_c w2 v1 v2 _ _ (seg_lx Hb.out.drop.drop HL6.out) (row_lxS Hb.out))
  rw [decide_eq_true rfl] at hss
  go_wp2_with fail
  refine hss.out.mono ?_
  rintro e w3 ⟨rfl, hm⟩
  have Hc := hid (((Hb.out.drop.mod hm).ent ((ent_drop _ _).under _)).swap)
  clear Hb hss hm
  go_wp2_with fail
  refine (pids_h Hc.out HF.out).mono ?_
  rintro e w4 ⟨v3, rfl, Hd⟩
  rw [HL.out] at Hd
  have Hd := hid (Hd.ent (ent_pull3 _ _ _ _))
  clear Hc
  go_wp2_with fail
  refine (rpids_c w0 L0 w4 rb l _ Hd.out HOK.out).mono ?_
  rintro e w5 ⟨v4, rfl, He⟩
  have He := hid He
  clear Hd
  have hpp := hid (lpids_c w5 v3 v4 _ _ (row_lx He.out.drop.drop) (row_lx He.out))
  rw [decide_eq_true rfl] at hpp
  go_wp2_with fail
  refine hpp.out.mono ?_
  rintro e w6 ⟨rfl, hm⟩
  have Hf := hid (((He.out.drop.mod hm).ent ((ent_drop _ _).under _)).swap)
  clear He hpp hm
  go_wp2_with fail
  refine (img_h Hf.out HF.out).mono ?_
  rintro e w7 ⟨rfl, Hg⟩
  rw [HL.out]
  have Hg := hid Hg
  clear Hf
  obtain ⟨g, cap, hat, _⟩ := hld_rf Hg.out.swap HOK.out.pos
  have him := hid (rimage_c w7 rb l g cap hat HOK.out)
  obtain ⟨I, hI⟩ : ∃ I, I = imgB l := ⟨_, rfl⟩
  rw [← hI] at him ⊢
  clear hat hI
  go_wp2_with fail
  refine him.out.mono ?_
  rintro e w8 ⟨rfl, hm⟩
  have Hh := hid (Hg.out.mod hm)
  clear Hg hm him
  have hb : (I.toList == I.toList) = true := by simp
  go_wp2
  go_ret
  exact ⟨rfl, Hh.out⟩

set_option maxRecDepth 100000 in
set_option maxHeartbeats 4000000 in
theorem reads_walk (b0 : ByteArray) (w : World) (hb0 : b0.size ≤ 9223372036854775807) :
    Calls Try.prog 4 #[.string b0] w fun e w' => e = .returned (.bool true) ∧ Mod [] w w' := by
  have H0 := hid (show Hld w [] emp w from Hld.start rfl)
  go_enter Try.func4, Try.ntmps4
  go_wp2_with fail
  obtain ⟨b, hb⟩ : ∃ b, b = b0.extract 0 (min (b0.size : Int) 1500).toNat := ⟨_, rfl⟩
  rw [← hb]
  have hbz : b.size ≤ 1500 := by rw [hb, ByteArray.size_extract]; omega
  clear hb
  refine (fparse_c w [] w b emp H0.out (by omega)).mono ?_
  intro e w1 hp
  rcases hp with ⟨hp, rfl, H1⟩ | ⟨fb, f, hp, hg, rfl, H1⟩
  · have HP := hid hp
    have H1 := hid H1
    clear hp H0
    go_wp2_with fail
    refine (rparse_c w [] w1 b emp H1.out (by omega)).mono ?_
    intro e w2 hp
    rcases hp with ⟨hp, rfl, H2⟩ | ⟨rb, l, hp, _⟩
    · have hm := hid H2.m
      clear hp H1 H2
      go_wp2_with fail
      refine (works_c w2).mono ?_
      rintro e w3 ⟨rfl, hm2⟩
      go_wp2
      go_ret
      exact ⟨rfl, hm.out.tr hm2⟩
    · rw [HP.out] at hp; cases hp
  · have HP := hid hp
    have H1 := hid H1
    have hwas := parse_was hp
    have HF := hid (Fok.mk hg hwas.1)
    have HI := hid hwas.2
    clear hp H0 hg hwas
    go_wp2_with fail
    refine (rparse_c w [] w1 b (star (feR fb f) emp) H1.out (by omega)).mono ?_
    intro e w2 hp
    rcases hp with ⟨hp, _⟩ | ⟨rb, l, hp, _, rfl, H2⟩
    · rw [HP.out] at hp; cases hp
    · have hl : f.lv = l := by rw [HP.out] at hp; exact Option.some.inj hp
      have HLL := hid hl
      have H2 := hid H2.swap
      clear hp hl H1
      go_wp2_with fail
      refine (same_c w [] w2 fb rb f l emp H2.out HF.out HLL.out).mono ?_
      rintro e w3 ⟨rfl, H3⟩
      have H3 := hid H3
      clear H2
      go_wp2_with fail
      refine (img_h H3.out HF.out).mono ?_
      rintro e w4 ⟨rfl, H4⟩
      rw [HI.out]
      have hm := hid H4.m
      clear H3 H4
      have hb : (b.toList == b.toList) = true := by simp
      go_wp2_with fail
      refine (works_c w4).mono ?_
      rintro e w5 ⟨rfl, hm2⟩
      go_wp2
      go_ret
      exact ⟨rfl, hm.out.tr hm2⟩
theorem reads_said (s : ByteArray) (w : World) (hs : s.size ≤ maxLen) :
    Calls Try.prog 4 #[.string s] w fun e w' => e = .returned (.bool true) ∧ Mod [] w w' := reads_walk s w (by simpa [maxLen] using hs)
end Go.Proofs.Ythofkkmnngmafaa
