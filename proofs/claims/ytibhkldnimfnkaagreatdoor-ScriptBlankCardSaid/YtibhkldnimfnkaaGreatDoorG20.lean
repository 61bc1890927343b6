/- Script: parts WG WH WI. -/
import Derived.Test.YtibhkldnimfnkaaGreatDoorG19

/- Script: strings.Replace, of the law's lines. -/
namespace Go.Proofs.YtibhkldnimfnkaaGreatDoor
section
set_option linter.unusedVariables false
set_option linter.unusedSimpArgs false
set_option linter.unusedSectionVars false
open Go.RowKit

set_option maxRecDepth 100000 in
theorem rep_none (s : Bs) (w : World) (hs : s.count 32 = 0) :
    Calls Tryz.prog 20 #[.string (str s), .string ⟨#[32]⟩, .string ⟨#[32, 9, 32]⟩, .int .i64 1] w fun e w' => e = .returned (.string (str s)) ∧ w' = w := by
  have HC := hid (Tryz.strings_Count_one (str s) 32 w)
  have hz : Lib.countByte (str s).data.toList 32 = 0 := hs
  rw [hz] at HC
  have hne : ((⟨#[32]⟩ : ByteArray) == ⟨#[32, 9, 32]⟩) = false := by decide
  go_enter Tryz.func20, Tryz.ntmps20
  go_wp2_with fail
  refine HC.out.mono ?_
  rintro e w' ⟨rfl, rfl⟩
  go_wp2_with fail
  go_ret
  exact ⟨rfl, rfl⟩
theorem lnW_R : ∀ k < 8, k ≠ 2 → Lib.replaceK [32] [32, 9, 32] (Lib.replaceNum (lnW k) [32] 1) (lnW k) = lnR k ∧ Lib.count (lnW k) [32] ≠ 0 ∧ Lib.count (lnW k) [32] ≤ 10 ∧ (lnW k).length ≤ 30 := by decide +kernel
theorem lnW_2 : (lnW 2).count 32 = 0 ∧ lnR 2 = lnW 2 := by decide
/-- A line with more blanks. -/
theorem rep_c (k : Nat) (hk : k < 8) (w : World) (hm : MaxL w) :
    Calls Tryz.prog 20 #[.string (str (lnW k)), .string ⟨#[32]⟩, .string ⟨#[32, 9, 32]⟩, .int .i64 1] w fun e w' => e = .returned (.string (str (lnR k))) ∧ Mod [] w w' := by
  by_cases h2 : k = 2
  · subst h2
    refine (rep_none (lnW 2) w lnW_2.1).mono ?_
    rintro e w' ⟨rfl, rfl⟩
    exact ⟨by rw [lnW_2.2], Mod.refl _ _⟩
  · obtain ⟨m, hm⟩ := hm
    obtain ⟨e1, e2, e3, e4⟩ := lnW_R k hk h2
    have hc : Lib.countB (str (lnW k)) ⟨#[32]⟩ = Lib.count (lnW k) [32] := by show Lib.count (str (lnW k)).data.toList [32] = _; simp
    refine (Tryz.strings_Replace_some (str (lnW k)) ⟨#[32]⟩ ⟨#[32, 9, 32]⟩ 1 m w (by rw [str_len]; omega) hm (by decide) (by decide) (by decide) (by rw [hc]; exact e2) (by rw [hc, str_len]; have : (⟨#[32, 9, 32]⟩ : ByteArray).size = 3 := rfl; rw [this]; omega)).mono ?_
    rintro e w' ⟨rfl, hb⟩
    refine ⟨?_, (Mod.refl [] w).up hb (Nat.le_refl _)⟩
    show Ending.returned (.string ⟨(Lib.replaceK [32] [32, 9, 32] (Lib.replaceNum (lnW k) [32] 1) (lnW k)).toArray⟩) = _
    rw [e1]
end
end Go.Proofs.YtibhkldnimfnkaaGreatDoor

/- Script: ScriptBlank. -/
namespace Go.Proofs.YtibhkldnimfnkaaGreatDoor
section
set_option linter.unusedVariables false
set_option linter.unusedSimpArgs false
set_option linter.unusedSectionVars false
open Go.RowKit

/-- A slice of bytes that may be read. -/
def U8V (w : World) (v : Value) (l : List Nat) : Prop := (∃ a cap, v = .slice a l.length cap ∧ l.length ≤ 9223372036854775807 ∧ IsSeq 1 (fun n : Nat => [Value.int .u8 (n : Int)]) w a l) ∧ ∀ x ∈ l, x < 256
theorem U8V.mod {w w' : World} {v : Value} {l : List Nat} (h : U8V w v l) (hm : Mod [] w w') : U8V w' v l := by
  obtain ⟨⟨a, cap, e, h1, h2⟩, h3⟩ := h
  exact ⟨⟨a, cap, e, h1, h2.mod hm⟩, h3⟩
theorem U8V.at {w : World} {a : Option Addr} {n cap : Nat} {l : List Nat} (h : U8V w (.slice a n cap) l) {i : Nat} {s : Nat} (hs : l[i]? = some s) : ∃ b off, a = some ⟨b, off, none⟩ ∧ w.cell? ⟨b, off + i, none⟩ = some (.int .u8 (s : Int)) ∧ s < 256 := by
  obtain ⟨⟨a', cap', e, h1, h2⟩, h4⟩ := h
  cases e
  obtain ⟨b, off, rfl, h3⟩ := h2.at (Mod.refl [] w) hs
  have := h3 0 _ rfl
  rw [Nat.mul_one] at this
  exact ⟨b, off, rfl, this, h4 s (List.mem_of_getElem? hs)⟩
/-- The lines' numbers, and the gaps'. -/
def bkP (ls bs : List Nat) (j : Nat) : List (Nat × Nat) := (List.range j).map fun i => (ls.getD i 0 % 8, match bs[i]? with | some b => b % 5 | none => 0)
theorem bkP_succ (ls bs : List Nat) (j x : Nat) (hx : ls[j]? = some x) : bkP ls bs (j + 1) = bkP ls bs j ++ [(x % 8, match bs[j]? with | some b => b % 5 | none => 0)] := by
  unfold bkP
  rw [List.range_succ, List.map_append, List.map_singleton, List.getD_eq_getElem?_getD, hx]
  rfl
theorem oneL_snoc : ∀ (l : List (Nat × Nat)) (k j : Nat), oneL (l ++ [(k, j)]) = oneL l ++ (lnW k ++ [10])
  | [], k, j => by simp [oneL]
  | (a, b) :: l, k, j => by rw [List.cons_append, oneL, oneL_snoc l k j, oneL]; simp
theorem twoL_snoc : ∀ (l : List (Nat × Nat)) (k j : Nat), twoL (l ++ [(k, j)]) = twoL l ++ (lnR k ++ gapB j)
  | [], k, j => by simp [twoL]
  | (a, b) :: l, k, j => by rw [List.cons_append, twoL, twoL_snoc l k j, twoL]; simp
theorem bk_lens : (∀ k < 8, (lnW k).length ≤ 30 ∧ (lnR k).length ≤ 40) ∧ ∀ j < 5, (gapB j).length ≤ 10 := by decide
theorem oneL_len : ∀ (l : List (Nat × Nat)), (∀ x ∈ l, x.1 < 8) → (oneL l).length ≤ l.length * 31
  | [], _ => by simp [oneL]
  | (k, j) :: l, h => by
    have h1 := (bk_lens.1 k (h (k, j) (by simp))).1
    have h2 := oneL_len l (fun x hx => h x (by simp [hx]))
    simp only [oneL, List.length_append, List.length_cons]; omega
theorem twoL_len : ∀ (l : List (Nat × Nat)), (∀ x ∈ l, x.1 < 8 ∧ x.2 < 5) → (twoL l).length ≤ l.length * 50
  | [], _ => by simp [twoL]
  | (k, j) :: l, h => by
    obtain ⟨hk, hj⟩ := h (k, j) (by simp)
    have h1 := (bk_lens.1 k hk).2
    have h3 := bk_lens.2 j hj
    have h2 := twoL_len l (fun x hx => h x (by simp [hx]))
    simp only [twoL, List.length_append, List.length_cons]; omega
theorem bkP_ok (ls bs : List Nat) (j : Nat) : (∀ x ∈ bkP ls bs j, x.1 < 8 ∧ x.2 < 5) ∧ (bkP ls bs j).length = j := by
  refine ⟨fun x hx => ?_, by simp [bkP]⟩
  obtain ⟨i, _, rfl⟩ := List.mem_map.1 hx
  refine ⟨by simp only; omega, ?_⟩
  simp only
  split <;> omega

abbrev bkA : Array Value := #[.string (str (lnW 0)), .string (str (lnW 1)), .string (str (lnW 2)), .string (str (lnW 3)), .string (str (lnW 4)), .string (str (lnW 5)), .string (str (lnW 6)), .string (str (lnW 7))]
abbrev bkG : Array Value := #[.string (str (gapB 0)), .string (str (gapB 1)), .string (str (gapB 2)), .string (str (gapB 3)), .string (str (gapB 4))]
theorem bkA_at (k : Nat) (h : k < 8) : bkA[k]? = some (.string (str (lnW k))) := by
  match k, h with
  | 0, _ | 1, _ | 2, _ | 3, _ | 4, _ | 5, _ | 6, _ | 7, _ => rfl
theorem bkG_at (k : Nat) (h : k < 5) : bkG[k]? = some (.string (str (gapB k))) := by
  match k, h with
  | 0, _ | 1, _ | 2, _ | 3, _ | 4, _ => rfl

set_option maxRecDepth 100000 in
set_option maxHeartbeats 8000000 in
theorem blank_c (ls bs : List Nat) (v v' : Value) (w : World) (hv : U8V w v ls) (hv' : U8V w v' bs) (hw : WOk w) :
    Calls Tryz.prog 8 #[v, v'] w fun e w' => e = .returned (.bool true) ∧ Mod [] w w' := by
  have HW := hid hw
  have HV := hid hv
  have HV' := hid hv'
  obtain ⟨⟨a, cap, rfl, hl63, _⟩, _⟩ := hv
  obtain ⟨⟨a', cap', rfl, hm63, _⟩, _⟩ := hv'
  clear hw
  go_enter Tryz.func8, Tryz.ntmps8
  go_wp2_with fail
  refine (works_c w HW.out).mono ?_
  rintro e w1 ⟨rfl, hm⟩
  have HM1 := hid hm
  clear hm
  go_wp2_with fail
  show Code.wp Tryz.prog _ _ _ ((w1.alloc (.cells bkA 52)).alloc (.cells bkG 53))
  obtain ⟨W0, hW0⟩ : ∃ W, W = (w1.alloc (.cells bkA 52)).alloc (.cells bkG 53) := ⟨_, rfl⟩
  obtain ⟨ab, hab⟩ : ∃ b, b = w1.heap.size := ⟨_, rfl⟩
  obtain ⟨gb, hgb⟩ : ∃ b, b = w1.heap.size + 1 := ⟨_, rfl⟩
  have hz : (w1.alloc (.cells bkA 52)).heap.size = gb := by rw [hgb]; simp
  have HAB : Hid (Blk W0 ab bkA 52) := by rw [hW0, hab]; exact (Blk.new _ _ _).alloc _
  have HGB : Hid (Blk W0 gb bkG 53) := by rw [hW0, ← hz]; exact Blk.new _ _ _
  have HM2 : Hid (Mod [] w W0) := by rw [hW0]; exact (HM1.out.alloc _).alloc _
  rw [← hW0, ← hgb, ← hab]
  clear hW0 hab hgb hz HM1
  go_loopg [7, 8, 9] (min ls.length 30) (fun g one two i wr => ∃ j : Nat, i = .int .i64 j ∧ j + g = min ls.length 30 ∧ one = .string (str (oneL (bkP ls bs j))) ∧ two = .string (str (twoL (bkP ls bs j))) ∧ Hid (Mod [] W0 wr))
  · exact ⟨0, rfl, by omega, rfl, rfl, hid (Mod.refl _ _)⟩
  · obtain ⟨j, rfl, hj, rfl, rfl, hM⟩ := hrel
    have hok := bkP_ok ls bs j
    have hl1 := oneL_len _ (fun x hx => (hok.1 x hx).1)
    have hl2 := twoL_len _ hok.1
    rw [hok.2] at hl1 hl2
    by_cases hlt : j < min ls.length 30
    · obtain ⟨x, hx⟩ : ∃ x, ls[j]? = some x := ⟨_, List.getElem?_eq_getElem (by omega)⟩
      have hmr := HM2.out.tr hM.out
      obtain ⟨b, off, rfl, c0, hx256⟩ := (HV.out.mod hmr).at hx
      have hj0 : (0 : Int) ≤ (j : Int) := by omega
      have hj1 : (j : Int) < (ls.length : Int) := by omega
      have hj2 : (j : Int) < 30 := by omega
      have hjl : j < ls.length := by omega
      obtain ⟨k, hk⟩ : ∃ k, k = x % 8 := ⟨_, rfl⟩
      have hk8 : k < 8 := by omega
      have hrem : (x : Int).tmod 8 = (k : Int) := by rw [hk]; rfl
      have hA := hM.out.blk HAB.out (by simp)
      have a0 := hA.cell k
      rw [bkA_at k hk8] at a0
      have al := hA.lt
      have hki : (k : Int) < 8 := by omega
      have hki0 : (0 : Int) ≤ (k : Int) := by omega
      have HSU := hid (bkP_succ ls bs j x hx)
      have HREP := hid (rep_c k hk8 wr (HW.out.mod hmr).mx)
      have HMR := hid hmr
      have HK := hid hk
      obtain ⟨s1, hs1⟩ : ∃ s, s = oneL (bkP ls bs j) := ⟨_, rfl⟩
      obtain ⟨s2, hs2⟩ : ∃ s, s = twoL (bkP ls bs j) := ⟨_, rfl⟩
      rw [← hs1] at hl1
      rw [← hs2] at hl2
      have HS1 := hid hs1
      have HS2 := hid hs2
      rw [← hs1, ← hs2]
      clear hok hx hmr hA hk hs1 hs2
      have z1 : (str s1).size = s1.length := str_len s1
      have z2 : (str (lnW k)).size = (lnW k).length := str_len _
      have z3 : (str (lnR k)).size = (lnR k).length := str_len _
      have z4 : (str s2).size = s2.length := str_len s2
      have hb1 := (bk_lens.1 k hk8)
      by_cases hlb : j < bs.length
      · obtain ⟨y, hy⟩ : ∃ y, bs[j]? = some y := ⟨_, List.getElem?_eq_getElem hlb⟩
        obtain ⟨b', off', rfl, d0, hy256⟩ := (HV'.out.mod HMR.out).at hy
        obtain ⟨m, hm⟩ : ∃ m, m = y % 5 := ⟨_, rfl⟩
        have hm5 : m < 5 := by omega
        have hrem2 : (y : Int).tmod 5 = (m : Int) := by rw [hm]; rfl
        have hG := hM.out.blk HGB.out (by simp)
        have g0 := hG.cell m
        rw [bkG_at m hm5] at g0
        have gl := hG.lt
        have hmi : (m : Int) < 5 := by omega
        have hjb : (j : Int) < (bs.length : Int) := by omega
        have HSU2 : Hid (bkP ls bs (j + 1) = bkP ls bs j ++ [(k, m)]) := by show _ = _; rw [HSU.out, hy, HK.out, hm]
        have hb2 := bk_lens.2 m hm5
        have z5 : (str (gapB m)).size = (gapB m).length := str_len _
        clear hG hy hm
        go_wp2_with fail
        refine HREP.out.mono ?_
        rintro e w2 ⟨rfl, hmm⟩
        have HM3 := hid (hM.out.tr hmm)
        clear hmm hM
        go_wp2_with fail
        have E1 : str s1 ++ str (lnW k) ++ (⟨#[10]⟩ : ByteArray) = str (oneL (bkP ls bs (j + 1))) := by
          rw [HSU2.out, oneL_snoc, ← HS1.out, show (⟨#[10]⟩ : ByteArray) = str [10] from rfl, str_cat, str_cat, List.append_assoc]
        have E2 : str s2 ++ str (lnR k) ++ str (gapB m) = str (twoL (bkP ls bs (j + 1))) := by
          rw [HSU2.out, twoL_snoc, ← HS2.out, str_cat, str_cat, List.append_assoc]
        rw [E1, E2]
        go_roundg (gk - 1)
        case measure => omega
        case rel => exact ⟨j + 1, by go_num, by omega, rfl, rfl, HM3⟩
      · have hjb : ¬ (j : Int) < (bs.length : Int) := by omega
        have HSU2 : Hid (bkP ls bs (j + 1) = bkP ls bs j ++ [(k, 0)]) := by show _ = _; rw [HSU.out, List.getElem?_eq_none (by omega), HK.out]
        go_wp2_with fail
        refine HREP.out.mono ?_
        rintro e w2 ⟨rfl, hmm⟩
        have HM3 := hid (hM.out.tr hmm)
        clear hmm hM
        go_wp2_with fail
        have E1 : str s1 ++ str (lnW k) ++ (⟨#[10]⟩ : ByteArray) = str (oneL (bkP ls bs (j + 1))) := by
          rw [HSU2.out, oneL_snoc, ← HS1.out, show (⟨#[10]⟩ : ByteArray) = str [10] from rfl, str_cat, str_cat, List.append_assoc]
        have E2 : str s2 ++ str (lnR k) ++ (⟨#[10]⟩ : ByteArray) = str (twoL (bkP ls bs (j + 1))) := by
          rw [HSU2.out, twoL_snoc, ← HS2.out, show (⟨#[10]⟩ : ByteArray) = str (gapB 0) from rfl, str_cat, str_cat, List.append_assoc]
        rw [E1, E2]
        go_roundg (gk - 1)
        case measure => omega
        case rel => exact ⟨j + 1, by go_num, by omega, rfl, rfl, HM3⟩
    · obtain rfl : j = min ls.length 30 := by omega
      obtain ⟨n, hn⟩ : ∃ n, n = min ls.length 30 := ⟨_, rfl⟩
      have hn30 : n ≤ 30 := by omega
      have hni : ((n : Nat) : Int) = min (ls.length : Int) 30 := by omega
      obtain ⟨l, hl⟩ : ∃ l, l = bkP ls bs (min ls.length 30) := ⟨_, rfl⟩
      have hll : l.length = n := by rw [hl, hok.2, hn]
      have hok2 : ∀ x ∈ l, x.1 < 8 ∧ x.2 < 5 := by rw [hl]; exact hok.1
      rw [← hl] at hl1 hl2
      have HP1 := hid (one_ok l (fun x hx => (hok2 x hx).1) (by omega))
      have HP2 := hid (two_ok l hok2 (by omega))
      have HMR := hid (HM2.out.tr hM.out)
      have HL1 : Hid ((oneL l).length < 1000000000) := by show _ < _; omega
      have HL2 : Hid ((twoL l).length < 1000000000) := by show _ < _; omega
      have HLL : Hid ((l.map fun x => stW x.1).length = n) := by show _ = _; rw [List.length_map, hll]
      rw [← hl]
      have hmin : ((min ls.length 30 : Nat) : Int) = min (ls.length : Int) 30 := by omega
      clear hl hok hok2 hl1 hl2 hll hM
      by_cases hlt2 : ls.length ≤ 30
      · have g1 : ¬ ((min ls.length 30 : Nat) : Int) < (ls.length : Int) := by omega
        go_wp2_with fail
        refine (parse_c (oneL l) wr HL1.out (HW.out.mod HMR.out).mx).mono ?_
        intro e x1 hpg
        obtain ⟨hm, va, ve, la, rfl, hsts, ⟨aa, capa, rfl⟩, h⟩ := ParseG.opened hpg
        clear hpg
        have HX1 := hid (HMR.out.tr hm)
        have HSA := hid hsts
        obtain ⟨rfl, rfl⟩ : la = l.map (fun x => stW x.1) ∧ ve = .nilIface := by
          rcases h with ⟨hp, rfl⟩ | ⟨c, i, hp, _⟩
          · rw [HP1.out] at hp; cases hp; exact ⟨rfl, rfl⟩
          · rw [HP1.out] at hp; cases hp
        clear h hm hsts
        go_wp2_with fail
        refine (parse_c (twoL l) x1 HL2.out (HW.out.mod HX1.out).mx).mono ?_
        intro e x2 hpg
        obtain ⟨hm, vb, ve, lb, rfl, hsts, ⟨ab2, capb, rfl⟩, h⟩ := ParseG.opened hpg
        clear hpg
        have HX2 := hid (HX1.out.tr hm)
        have HSB := hid hsts
        have HSA2 := hid (HSA.out.mod hm)
        obtain ⟨rfl, rfl⟩ : lb = l.map (fun x => stW x.1) ∧ ve = .nilIface := by
          rcases h with ⟨hp, rfl⟩ | ⟨c, i, hp, _⟩
          · rw [HP2.out] at hp; cases hp; exact ⟨rfl, rfl⟩
          · rw [HP2.out] at hp; cases hp
        clear h hm hsts
        go_wp2_with fail
        obtain ⟨q, hq⟩ : ∃ q, q = l.map (fun x => stW x.1) := ⟨_, rfl⟩
        rw [← hq] at HSA2 HSB HLL
        have hqll : q.length = l.length := by rw [hq, List.length_map]
        have hqi : ((l.length : Nat) : Int) = min (ls.length : Int) 30 := by rw [← hqll, HLL.out]; exact hni
        rw [hqll] at HSA2 HSB
        refine (same_c q q _ _ x2 HSA2.out HSB.out).mono ?_
        rintro e x3 ⟨rfl, hm⟩
        have HX3 := hid (HX2.out.tr hm)
        clear hm
        rw [show decide (q = q) = true from decide_eq_true rfl]
        go_wp2_with fail
        go_ret
        refine ⟨?_, HX3.out⟩
        first
          | rfl
          | (simp [hqi])
      · have g1 : ((min ls.length 30 : Nat) : Int) < (ls.length : Int) := by omega
        have g2 : ¬ ((min ls.length 30 : Nat) : Int) < 30 := by omega
        go_wp2_with fail
        refine (parse_c (oneL l) wr HL1.out (HW.out.mod HMR.out).mx).mono ?_
        intro e x1 hpg
        obtain ⟨hm, va, ve, la, rfl, hsts, ⟨aa, capa, rfl⟩, h⟩ := ParseG.opened hpg
        clear hpg
        have HX1 := hid (HMR.out.tr hm)
        have HSA := hid hsts
        obtain ⟨rfl, rfl⟩ : la = l.map (fun x => stW x.1) ∧ ve = .nilIface := by
          rcases h with ⟨hp, rfl⟩ | ⟨c, i, hp, _⟩
          · rw [HP1.out] at hp; cases hp; exact ⟨rfl, rfl⟩
          · rw [HP1.out] at hp; cases hp
        clear h hm hsts
        go_wp2_with fail
        refine (parse_c (twoL l) x1 HL2.out (HW.out.mod HX1.out).mx).mono ?_
        intro e x2 hpg
        obtain ⟨hm, vb, ve, lb, rfl, hsts, ⟨ab2, capb, rfl⟩, h⟩ := ParseG.opened hpg
        clear hpg
        have HX2 := hid (HX1.out.tr hm)
        have HSB := hid hsts
        have HSA2 := hid (HSA.out.mod hm)
        obtain ⟨rfl, rfl⟩ : lb = l.map (fun x => stW x.1) ∧ ve = .nilIface := by
          rcases h with ⟨hp, rfl⟩ | ⟨c, i, hp, _⟩
          · rw [HP2.out] at hp; cases hp; exact ⟨rfl, rfl⟩
          · rw [HP2.out] at hp; cases hp
        clear h hm hsts
        go_wp2_with fail
        obtain ⟨q, hq⟩ : ∃ q, q = l.map (fun x => stW x.1) := ⟨_, rfl⟩
        rw [← hq] at HSA2 HSB HLL
        have hqll : q.length = l.length := by rw [hq, List.length_map]
        have hqi : ((l.length : Nat) : Int) = min (ls.length : Int) 30 := by rw [← hqll, HLL.out]; exact hni
        rw [hqll] at HSA2 HSB
        refine (same_c q q _ _ x2 HSA2.out HSB.out).mono ?_
        rintro e x3 ⟨rfl, hm⟩
        have HX3 := hid (HX2.out.tr hm)
        clear hm
        rw [show decide (q = q) = true from decide_eq_true rfl]
        go_wp2_with fail
        go_ret
        refine ⟨?_, HX3.out⟩
        first
          | rfl
          | (simp [hqi])
end
end Go.Proofs.YtibhkldnimfnkaaGreatDoor

/- Script: ScriptBlank's arguments. -/
namespace Go.Proofs.YtibhkldnimfnkaaGreatDoor
section
set_option linter.unusedVariables false
set_option linter.unusedSimpArgs false
set_option linter.unusedSectionVars false
open Go.RowKit Go.ChangeShapes Go.WideShapes Go.Deep
set_option maxRecDepth 100000

theorem open_bytes {H : Type} {enc : TypeId × Value → H} {w : World} {base : Nat} {spare : Nat → Bool} {held : Bool} {a : Option Addr} {len cap : Nat} {d : DataW H} {p : List MemPlace}
    (h : DataW.Trod enc Tryz.prog w base spare held 41 (.slice a len cap) d p) : ∃ xs : List Nat, U8V w (.slice a len cap) xs := by
  have h1 : ∃ xs : List {x : Nat // x < 256}, xs.length = len ∧ IsSeq 1 (fun x => (fun n : Nat => [Value.int .u8 (n : Int)]) x.1) w a xs ∧ len ≤ 9223372036854775807 := by
    refine open_seq Tryz.underlying41 (C := 1) (by kernel_rfl) (by decide) (fun x : {x : Nat // x < 256} => [Value.int .u8 (x.1 : Int)]) ?_ h
    intro fuel cs x hx hlen
    match cs, hlen with
    | [v0], _ =>
      obtain ⟨n0, e0, _, w0⟩ := DataW.trod_int Tryz.underlying5 hx
      obtain ⟨k, rfl, hk⟩ := u8_bnd w0
      simp at e0
      subst e0
      exact ⟨⟨k, hk⟩, rfl⟩
  obtain ⟨xs, hl, hs, hlen⟩ := h1
  refine ⟨xs.map Subtype.val, ⟨a, cap, by simp [hl], by simp [hl, hlen], seq_sub hs⟩, fun x hx => ?_⟩
  obtain ⟨y, _, rfl⟩ := List.mem_map.1 hx
  exact y.2
theorem blank_said {H : Type} {enc : TypeId × Value → H} {base : Nat} {spare : Nat → Bool} {held : Bool} {base' : Nat} {spare' : Nat → Bool} {held' : Bool} (a : Option Addr) (len cap : Nat) (a' : Option Addr) (len' cap' : Nat) (W : World) {d d' : DataW H} {p p' : List MemPlace} (hw : WOk W)
    (h : DataW.Trod enc Tryz.prog W base spare held 41 (.slice a len cap) d p) (h' : DataW.Trod enc Tryz.prog W base' spare' held' 41 (.slice a' len' cap') d' p') :
    Calls Tryz.prog 8 #[.slice a len cap, .slice a' len' cap'] W fun e w' => e = .returned (.bool true) ∧ Mod [] W w' := by
  obtain ⟨xs, hv⟩ := open_bytes h
  obtain ⟨ys, hv'⟩ := open_bytes h'
  exact blank_c xs ys _ _ W hv hv' hw
end
end Go.Proofs.YtibhkldnimfnkaaGreatDoor
