/- SpanTurned, walked. -/
import Derived.Test.YtkacjggjmdndaaaSPP
import Derived.Test.YtkacjggjmdndaaaSPQ
namespace Go.Proofs.Ytkacjggjmdndaaa
set_option linter.unusedVariables false
set_option linter.unusedSimpArgs false
set_option linter.unusedSectionVars false
open Go.RowKit

theorem top_span2 {w0 w : World} {b : Nat} {most : Int} {l : List Rg} {R : Res} (h : Top w0 (star (spanR b most l) R) w) : ∃ L, spanR b most l w L := h.res
/-- A range, its ends cut. -/
def cutR (x : Rg) : Rg := ⟨shortB x.lo, shortB x.hi, x.ts⟩

theorem Top.get2 {w0 w : World} {U : Res} {a b : Nat} {ca cb : Array Value} {T T' : TypeId} (h : Top w0 (star (star (boxR a ca T) (boxR b cb T')) U) w) : Blk w a ca T ∧ Blk w b cb T' := by
  obtain ⟨L, ⟨L1, L2, ⟨L3, L4, ⟨h1, _⟩, ⟨h2, _⟩, _⟩, _⟩, _⟩ := h
  exact ⟨h1, h2⟩

set_option maxRecDepth 100000 in
set_option maxHeartbeats 8000000 in
theorem turned_walk (a : Option Addr) (cap : Nat) (xs : List Rg) (t : Nat) (ka : Option Addr) (kcap : Nat) (ks : List ByteArray) (w : World) (hcap : xs.length ≤ cap) (ht : t < 256) (h : Lx 3 rgC w (.slice a xs.length cap) xs) (hx : ∀ x ∈ xs, x.Ok) (hk : Lx 1 strC w (.slice ka ks.length kcap) ks) (hks : ∀ s ∈ ks, s.size ≤ 9223372036854775807) :
    Calls Try.prog 4 #[.slice a xs.length cap, .int .u8 t, .slice ka ks.length kcap] w fun e w' => e = .returned (.bool true) ∧ Mod [] w w' := by
  have hlen := h.len.2
  have hklen := hk.len.2
  obtain ⟨n, hn⟩ : ∃ n, n = min xs.length 20 := ⟨_, rfl⟩
  obtain ⟨l, hl⟩ : ∃ l, l = xs.take n := ⟨_, rfl⟩
  have hll : l.length = n := by rw [hl, List.length_take]; omega
  have hl20 : l.length ≤ 20 := by omega
  have HL : Hid (Lx 3 rgC w (.slice a l.length cap) l) := by
    have h2 := h.take (m := n) (by omega) cap
    rw [← hl] at h2
    rw [hll]; exact h2
  have Hx : Hid (∀ x ∈ l, x.Ok) := fun x hx' => hx x (by rw [hl] at hx'; exact List.mem_of_mem_take hx')
  have HKS := hid hk
  have Hks := hid hks
  have hn2 : (xs.length ≤ 20 ∧ n = xs.length) ∨ (20 < xs.length ∧ n = 20) := by omega
  have Hll := hid hll
  clear h hx hk hks hn hl hll
  go_enter Try.func4, Try.ntmps4
  go_upto_region 1 with (fail)
  go_cut [0] from 13 to 17 (fun q wx => q = .slice a l.length cap ∧ Hid (w = wx))
  case first =>
    rcases hn2 with ⟨k1, k2⟩ | ⟨k1, k2⟩
    · have k5 : xs.length ≤ cap := hcap
      have k3 : ¬ ((20 : Int) < (xs.length : Int)) := by omega
      have K := hid (Hll.out.trans k2)
      clear Hll k2
      go_wp2
      go_meet
      exact ⟨by rw [K.out, show (min (xs.length : Int) 20).toNat = xs.length by omega], rfl⟩
    · have k5 : 20 ≤ cap := by omega
      have k3 : (20 : Int) < (xs.length : Int) := by omega
      have k4 : ¬ (xs.length : Int) < 20 := by omega
      have K := hid (Hll.out.trans k2)
      clear Hll k2
      go_wp2
      go_meet
      exact ⟨by rw [K.out, show (min (xs.length : Int) 20).toNat = 20 by omega], rfl⟩
  case rest =>
    obtain ⟨rfl, hw⟩ := hcut
    have hw' := hw.out
    subst hw'
    clear hw hn2 Hll
    go_wp2_with fail
    refine (new_c _ 60 (by omega)).mono ?_
    rintro e w1 ⟨rfl, h1, m1, s1⟩
    have T1 := hid ((Top.start w).made h1 m1 (by simp))
    clear h1 m1 s1
    generalize w.heap.size = b1 at *
    go_wp2_with fail
    refine (new_c _ 60 (by omega)).mono ?_
    rintro e w2 ⟨rfl, h2, m2, s2⟩
    have T2 := hid (T1.out.made h2 m2 (by simp))
    clear h2 m2 s2 T1
    generalize w1.heap.size = b2 at *
    obtain ⟨X, hX⟩ : ∃ X : Nat → Rg, X = fun j => cutR (l.getD j ⟨mt, mt, 0⟩) := ⟨_, rfl⟩
    obtain ⟨Y, hY⟩ : ∃ Y : Nat → Rg, Y = fun j => cutR (l.getD (l.length - 1 - (j + t) % l.length) ⟨mt, mt, 0⟩) := ⟨_, rfl⟩
    have HX := hid hX
    have HY := hid hY
    clear hX hY
    go_wp2
    go_loopg [9] 21 (fun g q wr => ∃ (k : Nat) (la lb SA SB : List Rg), q = .int .i64 k ∧ k + g = 21 ∧ k ≤ l.length ∧ la.length ≤ k ∧ lb.length ≤ 2 * k ∧ Hid (Srt la) ∧ Hid (Srt lb) ∧ Hid (Told la SA) ∧ Hid (Told lb SB) ∧
      Hid (∀ s, s ∈ SA ↔ ∃ j, j < k ∧ s = X j) ∧ Hid (∀ s ∈ SB, ∃ j, j < k ∧ (s = Y j ∨ s = halfS (Y j))) ∧ Hid (∀ j, j < k → Y j ∈ SB) ∧
      Hid (Top w (star (spanR b2 60 lb) (star (spanR b1 60 la) emp)) wr))
    · exact ⟨0, [], [], [], [], rfl, by omega, by omega, by simp, by simp, srt_nil, srt_nil, Told.nil, Told.nil, hid (by simp), hid (by simp), hid (by simp), T2⟩
    · clear T2
      obtain ⟨k, la, lb, SA, SB, rfl, hkg, hkx, hla, hlb, hSa, hSb, hTa, hTb, hA, hB1, hB2, hT⟩ := hrel
      rcases Nat.lt_or_ge k l.length with hlt | hge
      · have hki : (k : Int) < (l.length : Int) := by omega
        obtain ⟨x, hxx⟩ : ∃ x, l[k]? = some x := ⟨_, List.getElem?_eq_getElem hlt⟩
        have hp : 0 < l.length := by omega
        obtain ⟨m, hm⟩ : ∃ m, l.length - 1 - (k + t) % l.length = m := ⟨_, rfl⟩
        have hmod := Nat.mod_lt (k + t) hp
        have hml : m < l.length := by omega
        obtain ⟨y, hyy⟩ : ∃ y, l[m]? = some y := ⟨_, List.getElem?_eq_getElem hml⟩
        obtain ⟨hx1, hx2, hx3⟩ := Hx.out x (List.mem_of_getElem? hxx)
        obtain ⟨hy1, hy2, hy3⟩ := Hx.out y (List.mem_of_getElem? hyy)
        have hXk : Hid (X k = cutR x) := by show _ = _; rw [HX.out]; simp [hxx]
        have hYk : Hid (Y k = cutR y) := by show _ = _; rw [HY.out]; simp [hm, hyy]
        have hmi : Hid ((l.length : Int) - 1 - Int.tmod ((k : Int) + (t : Int)) (l.length : Int) = (m : Int)) := by
          show _ = _
          have : Int.tmod ((k : Int) + (t : Int)) (l.length : Int) = (((k + t) % l.length : Nat) : Int) := rfl
          rw [this]; omega
        obtain ⟨b', off, rfl, _⟩ := HL.out.at hxx
        have hC : Hid (∀ X, Mod [] w X → (X.cell? ⟨b', off + k * 3, none⟩ = some (.string x.lo) ∧ X.cell? ⟨b', off + k * 3 + 1, none⟩ = some (.string x.hi) ∧ X.cell? ⟨b', off + k * 3 + 2, none⟩ = some (.int .u64 x.ts)) ∧ X.cell? ⟨b', off + m * 3, none⟩ = some (.string y.lo) ∧ X.cell? ⟨b', off + m * 3 + 1, none⟩ = some (.string y.hi) ∧ X.cell? ⟨b', off + m * 3 + 2, none⟩ = some (.int .u64 y.ts)) := by
          intro X hX
          obtain ⟨_, _, e, hc⟩ := (HL.out.mod hX).at hxx
          simp only [Option.some.injEq, Addr.mk.injEq, and_true] at e
          obtain ⟨rfl, rfl⟩ := e
          obtain ⟨_, _, e, hd⟩ := (HL.out.mod hX).at hyy
          simp only [Option.some.injEq, Addr.mk.injEq, and_true] at e
          obtain ⟨rfl, rfl⟩ := e
          exact ⟨⟨hc 0 _ rfl, hc 1 _ rfl, hc 2 _ rfl⟩, hd 0 _ rfl, hd 1 _ rfl, hd 2 _ rfl⟩
        clear hxx hyy hm
        have hw1 : IntKind.i64.wrap ((k : Int) + (t : Int)) = (k : Int) + (t : Int) := IntWalk.i64_in _ ⟨by omega, by omega⟩
        have hw2 : IntKind.i64.wrap ((l.length : Int) - 1) = (l.length : Int) - 1 := IntWalk.i64_in _ ⟨by omega, by omega⟩
        have hw3 : IntKind.i64.wrap ((l.length : Int) - 1 - Int.tmod ((k : Int) + (t : Int)) (l.length : Int)) = (m : Int) := by rw [hmi.out]; exact IntWalk.i64_in _ ⟨by omega, by omega⟩
        have hw0 : IntKind.i64.wrap (t : Int) = (t : Int) := IntWalk.i64_in _ ⟨by omega, by omega⟩
        have hmI : (m : Int) < (l.length : Int) := by omega
        have hm0 : (0 : Int) ≤ (m : Int) := by omega
        have hl0 : ¬ l = [] := fun e => by rw [e] at hp; simp at hp
        obtain ⟨⟨c0, c1, c2⟩, d0, d1, d2⟩ := hC.out _ hT.out.m.drew
        have HT1 := hid (two_boxes wr (rgC x).toArray (rgC y).toArray 32)
        have HT2 := hid (two_boxes wr (rgC y).toArray (rgC x).toArray 32)
        have hS : Hid (∀ X, Mod [] wr X → (X.cell? ⟨b', off + k * 3, none⟩ = some (.string x.lo) ∧ X.cell? ⟨b', off + k * 3 + 1, none⟩ = some (.string x.hi) ∧ X.cell? ⟨b', off + k * 3 + 2, none⟩ = some (.int .u64 x.ts)) ∧ X.cell? ⟨b', off + m * 3, none⟩ = some (.string y.lo) ∧ X.cell? ⟨b', off + m * 3 + 1, none⟩ = some (.string y.hi) ∧ X.cell? ⟨b', off + m * 3 + 2, none⟩ = some (.int .u64 y.ts)) := fun X hX => hC.out X (hT.out.m.tr hX)
        go_upto_region 8 with (fail)
        go_cut [10, 11] from 32 to 49 (fun p q wx => ∃ r1 r2 : Nat, p = .pointer (some ⟨r1, 0, none⟩) ∧ q = .pointer (some ⟨r2, 0, none⟩) ∧ r1 ≠ r2 ∧ wr.heap.size ≤ r1 ∧ wr.heap.size ≤ r2 ∧ Hid (Mod [] wr wx) ∧ Hid (Blk wx r1 (rgC x).toArray 32) ∧ Hid (Blk wx r2 (rgC y).toArray 32))
        case first =>
          go_region_held3 (fun X => X.cell? ⟨b', off + k * 3, none⟩ = some (.string x.lo) ∧ X.cell? ⟨b', off + k * 3 + 1, none⟩ = some (.string x.hi) ∧ X.cell? ⟨b', off + k * 3 + 2, none⟩ = some (.int .u64 x.ts) ∧ X.cell? ⟨b', off + m * 3, none⟩ = some (.string y.lo) ∧ X.cell? ⟨b', off + m * 3 + 1, none⟩ = some (.string y.hi) ∧ X.cell? ⟨b', off + m * 3 + 2, none⟩ = some (.int .u64 y.ts))
            (first
              | exact ⟨c0, c1, c2, d0, d1, d2⟩
              | assumption
              | (refine (fun h => ⟨(hS.out _ h).1.1, (hS.out _ h).1.2.1, (hS.out _ h).1.2.2, (hS.out _ h).2⟩) ?_; (repeat (first | exact Mod.refl [] wr | refine Mod.drew ?_ | refine Mod.alloc ?_ _)); done)
              | fail)
            (fail)
          all_goals
            go_wp2
            go_meet
            first
              | exact ⟨_, _, rfl, rfl, Nat.ne_of_lt (Nat.lt_succ_self _), Nat.le_refl _, Nat.le_succ _, HT1.out.1, HT1.out.2.1, HT1.out.2.2⟩
              | exact ⟨_, _, rfl, rfl, Nat.ne_of_gt (Nat.lt_succ_self _), Nat.le_succ _, Nat.le_refl _, HT2.out.1, HT2.out.2.2, HT2.out.2.1⟩
        case rest =>
          obtain ⟨r1, r2, rfl, rfl, hrr, hr1, hr2, HMc, HR1, HR2⟩ := hcut
          clear HT1 HT2 hS hC c0 c1 c2 d0 d1 d2 hw1 hw2 hw3 hw0 hmi
          have hBB := hid (hT.out.made (R' := star (boxR r1 (rgC x).toArray 32) (boxR r2 (rgC y).toArray 32)) (L := [r1] ++ [r2]) ⟨[r1], [r2], ⟨HR1.out, rfl⟩, ⟨HR2.out, rfl⟩, rfl, by simpa using hrr⟩ HMc.out (by simp; omega))
          clear hT HMc HR1 HR2
          have hT1 := hid hBB.out.swap2.swap
          clear hBB
          have hTd := hid hT1.out.drew
          have hE : Hid (∀ Z, Blk Z r1 (rgC x).toArray 32 → Z.cell? ⟨r1, 0, none⟩ = some (.string x.lo) ∧ Z.cell? ⟨r1, 1, none⟩ = some (.string x.hi) ∧ Z.cell? ⟨r1, 2, none⟩ = some (.int .u64 x.ts)) := fun Z hZ => ⟨hZ.cell 0, hZ.cell 1, hZ.cell 2⟩
          obtain ⟨e0, e1, e2⟩ := hE.out _ (hT1.out.drew.drop.get2.1)
          have hread := hid (hTd.out.call (fun L hL => read_c _ b1 60 la (shortB x.lo) (shortB x.hi) (x.ts) L hL hSa.out (by omega) (by omega)))
          go_upto_region 9 with (fail)
          go_region_held3 (fun Z => Z.cell? ⟨r1, 0, none⟩ = some (.string x.lo) ∧ Z.cell? ⟨r1, 1, none⟩ = some (.string x.hi) ∧ Z.cell? ⟨r1, 2, none⟩ = some (.int .u64 x.ts))
            (first | exact ⟨e0, e1, e2⟩ | assumption | exact hE.out _ (hT9.out.drop.get2.1) | fail)
            (first
              | (go_at_call 9; (with_reducible refine (short_c _ _ (by assumption)).mono ?_); rintro e w' ⟨rfl, rfl⟩)
              | (go_at_call 10; (with_reducible refine hread.out.mono ?_); rintro e w9 ⟨rfl, h⟩; have hT9 := hid h; clear h)
              | fail)
          clear hTd hread hE e0 e1 e2
          have hT2 := hid hT9.out.swap2.swap
          clear hT9 hT1
          have hTd := hid hT2.out.drew
          have hE : Hid (∀ Z, Blk Z r2 (rgC y).toArray 32 → Z.cell? ⟨r2, 0, none⟩ = some (.string y.lo) ∧ Z.cell? ⟨r2, 1, none⟩ = some (.string y.hi) ∧ Z.cell? ⟨r2, 2, none⟩ = some (.int .u64 y.ts)) := fun Z hZ => ⟨hZ.cell 0, hZ.cell 1, hZ.cell 2⟩
          obtain ⟨e0, e1, e2⟩ := hE.out _ (hT2.out.drew.drop.drop.get2.2)
          have hread := hid (hTd.out.call (fun L hL => read_c _ b2 60 lb (shortB y.lo) (shortB y.hi) (y.ts) L hL hSb.out (by omega) (by omega)))
          go_upto_region 10 with (fail)
          go_region_held3 (fun Z => Z.cell? ⟨r2, 0, none⟩ = some (.string y.lo) ∧ Z.cell? ⟨r2, 1, none⟩ = some (.string y.hi) ∧ Z.cell? ⟨r2, 2, none⟩ = some (.int .u64 y.ts))
            (first | exact ⟨e0, e1, e2⟩ | assumption | exact hE.out _ (hT10.out.drop.drop.get2.2) | fail)
            (first
              | (go_at_call 9; (with_reducible refine (short_c _ _ (by assumption)).mono ?_); rintro e w' ⟨rfl, rfl⟩)
              | (go_at_call 10; (with_reducible refine hread.out.mono ?_); rintro e w10 ⟨rfl, h⟩; have hT10 := hid h; clear h)
              | fail)
          clear hTd hread hE e0 e1 e2
          clear hT2
          obtain ⟨lb1, hlb1⟩ : ∃ lb1, readR (60 : Int) lb (shortB y.lo) (shortB y.hi) y.ts = lb1 := ⟨_, rfl⟩
          have hTb1 : Told lb1 (SB ++ [cutR y]) := by rw [← hlb1]; exact hTb.out.step (cutR y) (by omega)
          have hSb1 : Hid (Srt lb1) := by rw [← hlb1]; exact readR_srt hSb.out
          have hlen1 : lb1.length ≤ lb.length + 1 := by rw [← hlb1]; exact readR_len
          rw [hlb1] at hT10
          have HTb1 := hid hTb1
          clear hlb1 hTb1
          obtain ⟨q, hq⟩ : ∃ q, q = y.ts / 2 := ⟨_, rfl⟩
          have hq1 : (y.ts : Int) / 2 = (q : Int) := by omega
          have hq2 : Int.tdiv (y.ts : Int) 2 = (q : Int) := by rw [hq]; rfl
          have hq3 : IntKind.u64.wrap (q : Int) = (q : Int) := by rw [IntKind.wrap_u64]; omega
          have Hq := hid hq
          clear hq
          have hTd := hid hT10.out.drew
          have hE : Hid (∀ Z, Blk Z r2 (rgC y).toArray 32 → Z.cell? ⟨r2, 0, none⟩ = some (.string y.lo) ∧ Z.cell? ⟨r2, 1, none⟩ = some (.string y.hi) ∧ Z.cell? ⟨r2, 2, none⟩ = some (.int .u64 y.ts)) := fun Z hZ => ⟨hZ.cell 0, hZ.cell 1, hZ.cell 2⟩
          obtain ⟨e0, e1, e2⟩ := hE.out _ (hT10.out.drew.drop.drop.get2.2)
          have hread := hid (hTd.out.call (fun L hL => read_c _ b2 60 lb1 (shortB y.lo) (shortB y.hi) (q) L hL hSb1.out (by omega) (by omega)))
          go_upto_region 11 with (fail)
          go_region_held3 (fun Z => Z.cell? ⟨r2, 0, none⟩ = some (.string y.lo) ∧ Z.cell? ⟨r2, 1, none⟩ = some (.string y.hi) ∧ Z.cell? ⟨r2, 2, none⟩ = some (.int .u64 y.ts))
            (first | exact ⟨e0, e1, e2⟩ | assumption | exact hE.out _ (hT11.out.drop.drop.get2.2) | fail)
            (first
              | (go_at_call 9; (with_reducible refine (short_c _ _ (by assumption)).mono ?_); rintro e w' ⟨rfl, rfl⟩)
              | (go_at_call 10; (with_reducible refine hread.out.mono ?_); rintro e w11 ⟨rfl, h⟩; have hT11 := hid h; clear h)
              | fail)
          clear hTd hread hE e0 e1 e2
          have hTa1 := hTa.out.step (cutR x) (most := 60) (by omega)
          have hSa1 : Hid (Srt (readR (60 : Int) la (shortB x.lo) (shortB x.hi) x.ts)) := readR_srt hSa.out
          have hla1 := readR_len (most := (60 : Int)) (l := la) (lo := shortB x.lo) (hi := shortB x.hi) (ts := x.ts)
          have hTb2 := HTb1.out.step (halfS (cutR y)) (most := 60) (by omega)
          have hSb2 : Hid (Srt (readR (60 : Int) lb1 (shortB y.lo) (shortB y.hi) q)) := readR_srt hSb1.out
          have hlb2 := readR_len (most := (60 : Int)) (l := lb1) (lo := shortB y.lo) (hi := shortB y.hi) (ts := q)
          have hTE := hid (hT11.out.ent (((ent_drop _ emp).under _).under _))
          have eqq : (halfS (cutR y)).ts = q := Hq.out.symm
          have hTa2 : Hid (Told (readR (60 : Int) la (shortB x.lo) (shortB x.hi) x.ts) (SA ++ [cutR x])) := hTa1
          have hTb3 : Hid (Told (readR (60 : Int) lb1 (shortB y.lo) (shortB y.hi) q) ((SB ++ [cutR y]) ++ [halfS (cutR y)])) := by
            have h := hTb2
            rw [eqq] at h
            exact h
          have hA' : Hid (∀ s, s ∈ SA ++ [cutR x] ↔ ∃ j, j < k + 1 ∧ s = X j) := by
            intro s
            rw [List.mem_append, hA.out, ← hXk.out, List.mem_singleton]
            constructor
            · rintro (⟨j, hj, rfl⟩ | rfl)
              · exact ⟨j, by omega, rfl⟩
              · exact ⟨k, by omega, rfl⟩
            · rintro ⟨j, hj, rfl⟩
              rcases (by omega : j < k ∨ j = k) with h | rfl
              · exact Or.inl ⟨j, h, rfl⟩
              · exact Or.inr rfl
          have hB1' : Hid (∀ s ∈ (SB ++ [cutR y]) ++ [halfS (cutR y)], ∃ j, j < k + 1 ∧ (s = Y j ∨ s = halfS (Y j))) := by
            intro s hs
            rcases List.mem_append.1 hs with hs | hs
            · rcases List.mem_append.1 hs with hs | hs
              · obtain ⟨j, hj, h⟩ := hB1.out s hs
                exact ⟨j, by omega, h⟩
              · simp at hs; exact ⟨k, by omega, Or.inl (hs.trans hYk.out.symm)⟩
            · simp at hs; exact ⟨k, by omega, Or.inr (by rw [hs, hYk.out])⟩
          have hB2' : Hid (∀ j, j < k + 1 → Y j ∈ (SB ++ [cutR y]) ++ [halfS (cutR y)]) := by
            intro j hj
            rcases (by omega : j < k ∨ j = k) with h | rfl
            · have := hB2.out j h; simp [this]
            · rw [hYk.out]; simp
          clear hT11 hTa1 hTb2 eqq hTa hTb HTb1 hA hB1 hB2 hSa hSb hSb1 hq1 hq2 hq3
          go_wp2
          go_roundg (gk - 1)
          case measure => omega
          case rel => exact ⟨k + 1, _, _, _, _, by go_num, by omega, by omega, by omega, by omega, hSa1, hSb2, hTa2, hTb3, hA', hB1', hB2', hTE⟩
      · obtain rfl : k = l.length := by omega
        have hXY : ∀ j, j < l.length → ∃ i, i < l.length ∧ X j = Y i := fun j hj => by
          obtain ⟨i, hi, e⟩ := turn_onto (t := t) hj
          exact ⟨i, hi, by rw [HX.out, HY.out]; simp only [e]⟩
        have hYX : ∀ j, j < l.length → ∃ i, i < l.length ∧ Y j = X i := fun j hj =>
          ⟨l.length - 1 - (j + t) % l.length, by have := Nat.mod_lt (j + t) (show 0 < l.length by omega); omega, by rw [HX.out, HY.out]⟩
        have hMx := hid (fun key => turned_max hTa.out hTb.out hA.out hB1.out hB2.out hXY hYX key)
        have hLe := turned_len hSa.out hTa.out hTb.out hA.out hB2.out hXY
        clear hXY hYX hTa hTb hA hB1 hB2 HX HY hge
        go_wp2
        go_loopg [12] 9 (fun g q wr => ∃ j : Nat, q = .int .i64 j ∧ j + g = 9 ∧ j ≤ ks.length ∧ Hid (Top w (star (spanR b2 60 lb) (star (spanR b1 60 la) emp)) wr))
        · exact ⟨0, rfl, by omega, by omega, hT⟩
        · clear hT
          obtain ⟨j, rfl, hjg, hjk, hT5⟩ := hrel
          by_cases hlt : j < ks.length ∧ j < 8
          · obtain ⟨hj1, hj2⟩ := hlt
            have hji : (j : Int) < (ks.length : Int) := by omega
            have hji2 : (j : Int) < 8 := by omega
            obtain ⟨y, hy⟩ : ∃ y, ks[j]? = some y := ⟨_, List.getElem?_eq_getElem hj1⟩
            have hy1 := Hks.out y (List.mem_of_getElem? hy)
            obtain ⟨kb, koff, rfl, _⟩ := HKS.out.at hy
            have hC2 : Hid (∀ X, Mod [] wr X → X.cell? ⟨kb, koff + j, none⟩ = some (.string y)) := by
              intro X hX
              obtain ⟨_, _, e, hc⟩ := (HKS.out.mod (hT5.out.m.tr hX)).at hy
              simp only [Option.some.injEq, Addr.mk.injEq, and_true] at e
              obtain ⟨rfl, rfl⟩ := e
              have := hc 0 _ rfl
              rw [Nat.mul_one, Nat.add_zero] at this
              exact this
            have k0 := hC2.out _ (Mod.refl [] wr).drew
            obtain ⟨L1, hL1⟩ := top_span hT5.out
            obtain ⟨L2, hL2⟩ := top_span hT5.out.drop
            have HL1 := hid hL1
            have HL2 := hid hL2
            have hmk := hMx.out (shortB y)
            have Hmk := hid hmk
            clear hL1 hL2 hy hmk
            go_upto_region 15 with (fail)
            go_region_held3 (fun X => Mod [] wr X ∧ X.cell? ⟨kb, koff + j, none⟩ = some (.string y))
              (first | exact ⟨(Mod.refl [] wr).drew, k0⟩ | assumption | exact ⟨Mod.tr (And.left ‹Mod [] wr _ ∧ _›) hm, hC2.out _ (Mod.tr (And.left ‹Mod [] wr _ ∧ _›) hm)⟩ | fail)
              (first
                | (go_at_call 9; (with_reducible refine (short_c _ _ hy1).mono ?_); rintro e w' ⟨rfl, rfl⟩)
                | (go_at_call 13; (with_reducible refine (max_c _ b1 60 la _ L2 (Keep.mod HL2.out (And.left ‹Mod [] wr _ ∧ _›) (by simp))).mono ?_); rintro e X ⟨rfl, hm⟩; rw [Hmk.out])
                | (go_at_call 13; (with_reducible refine (max_c _ b2 60 lb _ L1 (Keep.mod HL1.out (And.left ‹Mod [] wr _ ∧ _›) (by simp))).mono ?_); rintro e X ⟨rfl, hm⟩)
                | fail)
            have hT6 := hid (hT5.out.mod (And.left ‹Mod [] wr _ ∧ _›))
            clear hT5 HL1 HL2 hC2 k0
            go_wp2
            go_roundg (gk - 1)
            case measure => omega
            case rel => exact ⟨j + 1, by go_num, by omega, by omega, hT6⟩
          · have hle : (la.length : Int) ≤ (lb.length : Int) := by omega
            rcases Nat.lt_or_ge j ks.length with hj1 | hj1
            case' inl =>
              have hji : (j : Int) < (ks.length : Int) := by omega
              have hji2 : ¬ (j : Int) < 8 := by omega
            case' inr =>
              have hji : ¬ (j : Int) < (ks.length : Int) := by omega
            all_goals
              clear hlt
              obtain ⟨L1, hL1⟩ := top_span hT5.out
              obtain ⟨L2, hL2⟩ := top_span hT5.out.drop
              go_wp2_with fail
              refine (hT5.out.read (len_c _ b1 60 la L2 hL2)).mono ?_
              rintro e w5 ⟨rfl, h⟩
              have hT6 := hid h
              clear h hT5 hL1 hL2
              obtain ⟨L1, hL1⟩ := top_span hT6.out
              go_wp2_with fail
              refine (hT6.out.read (len_c _ b2 60 lb L1 hL1)).mono ?_
              rintro e w6 ⟨rfl, h⟩
              have hT7 := hid h
              clear h hT6 hL1
              go_wp2_with fail
              refine (hT7.out.read (works_c _)).mono ?_
              rintro e w7 ⟨rfl, h⟩
              have hT8 := hid h
              clear h hT7
              go_wp2
              go_ret
              exact ⟨rfl, hT8.out.m⟩

theorem u8_bnd {n : Int} (h : (Lit.int .u8 n).wf = true) : ∃ k : Nat, n = k ∧ k < 256 := by
  simp [Lit.wf, IntKind.min, IntKind.max, IntKind.signed, IntKind.bits] at h
  obtain ⟨k, rfl⟩ := Int.eq_ofNat_of_zero_le h.1
  exact ⟨k, rfl, by omega⟩

theorem turned_said {H : Type} {enc : TypeId × Value → H} {base base' : Nat} {spare spare' : Nat → Bool} {held held' : Bool} {d d' : DataW H} {p p' : List MemPlace} (a : Option Addr) (len cap : Nat) (t : Int) (ka : Option Addr) (klen kcap : Nat) (w : World)
    (h : DataW.Trod enc Try.prog w base spare held 22 (.slice a len cap) d p) (hle : len ≤ cap) (ht : (Lit.int .u8 t).wf = true) (h' : DataW.Trod enc Try.prog w base' spare' held' 23 (.slice ka klen kcap) d' p') :
    Calls Try.prog 4 #[.slice a len cap, .int .u8 t, .slice ka klen kcap] w fun e w' => e = .returned (.bool true) ∧ Mod [] w w' := by
  obtain ⟨xs, hl, rfl, hx⟩ := open_scans h
  obtain ⟨ks, hk, rfl, hks⟩ := open_strs h'
  obtain ⟨k, rfl, hk8⟩ := u8_bnd ht
  exact turned_walk a cap xs k ka kcap ks w hle hk8 hl hx hk hks

end Go.Proofs.Ytkacjggjmdndaaa
