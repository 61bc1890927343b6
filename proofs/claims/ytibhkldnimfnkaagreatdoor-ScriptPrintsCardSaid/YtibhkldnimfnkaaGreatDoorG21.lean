/- Script: parts B1 B2. -/
import Derived.Test.YtibhkldnimfnkaaGreatDoorG17

/- Script, the reference: a blank; a quoted word. -/
namespace Go.Proofs.YtibhkldnimfnkaaGreatDoor
section
set_option linter.unusedVariables false
set_option linter.unusedSimpArgs false
set_option linter.unusedSectionVars false
open Go.RowKit

theorem blank_r (c : UInt8) (w : World) : Calls Tryz.prog 77 #[.int .u8 (c.toNat : Int)] w fun e w' => e = .returned (.bool (isBlank c)) ∧ w' = w := by
  by_cases h1 : c = 32
  · subst h1
    go_enter Tryz.func77, Tryz.ntmps77
    go_wp2_with fail
    go_ret
    exact ⟨rfl, rfl⟩
  · have e1 := ne_u8 h1
    have hb : isBlank c = (c == 9) := by simp [isBlank, h1]
    by_cases h2 : c = 9
    · subst h2
      go_enter Tryz.func77, Tryz.ntmps77
      go_wp2_with fail
      go_ret
      exact ⟨rfl, rfl⟩
    · have e2 := ne_u8 h2
      have hb2 : isBlank c = false := by rw [hb]; exact beq_eq_false_iff_ne.2 h2
      rw [hb2]
      clear h1 h2
      have f1 : ¬ (c.toNat : Int) = 32 := fun h => by simp [h] at e1
      have f2 : ¬ (c.toNat : Int) = 9 := fun h => by simp [h] at e2
      go_enter Tryz.func77, Tryz.ntmps77
      go_wp2_with fail
      go_ret
      refine ⟨?_, rfl⟩
      show Ending.returned (.bool (((c.toNat : Int) == 32) || ((c.toNat : Int) == 9))) = _
      rw [beq_eq_false_iff_ne.2 f1, beq_eq_false_iff_ne.2 f2]
      rfl

/-- One byte of a text, as a text. -/
theorem run_one (s : ByteArray) (i : Nat) (c : UInt8) (h : (byt s)[i]? = some c) (w : World) : (Instr.slice 9 (.string s) (some (.int .i64 (i : Int))) (some (.int .i64 ((i : Int) + 1))) none).run Tryz.prog w = .ok (.string (str [c])) w := by
  have hi : i < s.size := by rw [← byt_len]; exact (List.getElem?_eq_some_iff.1 h).1
  rw [run_slice_string_if w 9 s .i64 .i64 i (i + 1) Tryz.underlying9, if_pos (by omega), if_pos (by omega)]
  have e : s.extract (i : Int).toNat ((i : Int) + 1).toNat = str [c] := by
    rw [← str_byt (s.extract _ _)]
    refine congrArg str ?_
    show (s.extract (i : Int).toNat ((i : Int) + 1).toNat).data.toList = [c]
    rw [show ((i : Int) + 1).toNat = i + 1 by omega, Int.toNat_natCast]
    obtain ⟨h1, h2⟩ := List.getElem?_eq_some_iff.1 h
    simp only [ByteArray.data_extract, Array.toList_extract, List.extract_eq_take_drop]
    rw [List.drop_eq_getElem_cons h1, h2, show i + 1 - i = 1 by omega]
    rfl
  rw [e]

/-- What a quoted word of the reference comes to. -/
def qrV (n : Nat) (o : Option (Bs × Bs)) : Value := match o with
  | none => .tuple #[.string mt0, .int .i64 0, .bool false]
  | some (t, r) => .tuple #[.string (str t), .int .i64 ((n - r.length : Nat) : Int), .bool true]
set_option maxRecDepth 100000 in
set_option maxHeartbeats 4000000 in
theorem quoted_r (s : ByteArray) (k : Nat) (w : World) (h0 : k < s.size) (hs : s.size < 4294967000) (o : Option (Bs × Bs)) (ho : quotedL ((byt s).drop (k + 1)) = o) :
    Calls Tryz.prog 78 #[.string s, .int .i64 (k : Int)] w fun e w' => e = .returned (qrV s.size o) ∧ w' = w := by
  have HO := hid ho
  clear ho
  have hk1 : IntKind.i64.wrap ((k : Int) + 1) = (k : Int) + 1 := by rw [IntKind.wrap_i64]; omega
  go_enter Tryz.func78, Tryz.ntmps78
  go_wp2_with fail
  go_loopg [1, 7] (s.size - (k + 1)) (fun g p u wr => ∃ (i : Nat) (acc : Bs), p = .int .i64 (i : Int) ∧ u = .string (str acc) ∧ i + g = s.size ∧ Hid (o = onto acc (quotedL ((byt s).drop i))) ∧ Hid (acc.length ≤ i) ∧ Hid (wr = w))
  · refine ⟨k + 1, [], rfl, rfl, by omega, by rw [onto_nil]; exact HO.out.symm, by simp [Hid], hid rfl⟩
  · obtain ⟨i, acc, rfl, rfl, hig, HQ, HL, HW⟩ := hrel
    cases HW.out
    clear HO h0
    by_cases hi : i < s.size
    · have hi2 : (i : Int) < s.size := by omega
      have hi0 : (0 : Int) ≤ (i : Int) := by omega
      obtain ⟨c, hc⟩ : ∃ c, (byt s)[i]? = some c := ⟨_, byt_at s i hi⟩
      have hd : (byt s).drop i = c :: (byt s).drop (i + 1) := by
        obtain ⟨h1, rfl⟩ := List.getElem?_eq_some_iff.1 hc
        exact (List.getElem_cons_drop h1).symm
      rw [hd] at HQ
      have hix := run_at s i c hc
      have hone := run_one s i c hc
      have hw1 : IntKind.i64.wrap ((i : Int) + 1) = (i : Int) + 1 := by rw [IntKind.wrap_i64]; omega
      clear hd hc
      by_cases c34 : c = 34
      · subst c34
        by_cases hi3 : i + 1 < s.size
        · have hi4 : (i : Int) + 1 < s.size := by omega
          obtain ⟨d, hd⟩ : ∃ d, (byt s)[i + 1]? = some d := ⟨_, byt_at s (i + 1) hi3⟩
          have hd2 : (byt s).drop (i + 1) = d :: (byt s).drop (i + 1 + 1) := by
            obtain ⟨h1, rfl⟩ := List.getElem?_eq_some_iff.1 hd
            exact (List.getElem_cons_drop h1).symm
          have hix2 := run_at s (i + 1) d hd
          rw [show ((i + 1 : Nat) : Int) = (i : Int) + 1 by omega] at hix2
          have HC := hid (blank_r d w)
          have hQ2 := HQ.out
          rw [quotedL_q, hd2] at hQ2
          have hlen : ((byt s).drop (i + 1)).length = s.size - (i + 1) := by rw [List.length_drop, byt_len]
          rw [hd2] at hlen
          have e3 : s.size - (d :: (byt s).drop (i + 1 + 1)).length = i + 1 := by rw [hlen]; omega
          cases hb : isBlank d
          · have HN : Hid (o = none) := by show _ = _; rw [hQ2]; simp [atEnd, onto, hb]
            rw [hb] at HC
            clear hQ2 hlen e3 hb hd2 hd HQ HL
            go_wp2_with fail
            refine HC.out.mono ?_
            rintro e w2 ⟨rfl, rfl⟩
            go_wp2_with fail
            refine bodyPost_ret (v := qrV s.size none) (by simp [results, Tryz.results78, go_sem, qrV]) rfl ⟨by rw [HN.out], rfl⟩
          · have HN : Hid (qrV s.size o = .tuple #[.string (str acc), .int .i64 ((i : Int) + 1), .bool true]) := by
              show _ = _
              rw [hQ2]
              simp only [atEnd, hb, if_true, onto, qrV, List.append_nil]
              rw [e3]
              rfl
            rw [hb] at HC
            clear hQ2 hlen e3 hb hd2 hd HQ HL
            go_wp2_with fail
            refine HC.out.mono ?_
            rintro e w2 ⟨rfl, rfl⟩
            go_wp2_with fail
            refine bodyPost_ret (v := .tuple #[.string (str acc), .int .i64 ((i : Int) + 1), .bool true]) (by simp [results, Tryz.results78, go_sem]) rfl ⟨congrArg Ending.returned HN.out.symm, rfl⟩
        · have hi4 : ¬ (i : Int) + 1 < s.size := by omega
          have hd2 : (byt s).drop (i + 1) = [] := List.drop_eq_nil_of_le (by rw [byt_len]; omega)
          have HN : Hid (qrV s.size o = .tuple #[.string (str acc), .int .i64 ((i : Int) + 1), .bool true]) := by
            show _ = _
            rw [HQ.out, quotedL_q, hd2]
            simp only [atEnd, if_true, onto, qrV, List.append_nil, List.length_nil, Nat.sub_zero]
            rw [show s.size = i + 1 by omega]
            rfl
          clear hd2 HQ HL
          go_wp2_with fail
          refine bodyPost_ret (v := .tuple #[.string (str acc), .int .i64 ((i : Int) + 1), .bool true]) (by simp [results, Tryz.results78, go_sem]) rfl ⟨congrArg Ending.returned HN.out.symm, rfl⟩
      · have n34 : ¬ (c.toNat : Int) = 34 := fun h => by have := ne_u8 c34; simp [h] at this
        by_cases c92 : c = 92
        · subst c92
          by_cases hi3 : i + 1 < s.size
          · have hi4 : (i : Int) + 1 < s.size := by omega
            have hi5 : (0 : Int) ≤ (i : Int) + 1 := by omega
            obtain ⟨d, hd⟩ : ∃ d, (byt s)[i + 1]? = some d := ⟨_, byt_at s (i + 1) hi3⟩
            have hd2 : (byt s).drop (i + 1) = d :: (byt s).drop (i + 1 + 1) := by
              obtain ⟨h1, rfl⟩ := List.getElem?_eq_some_iff.1 hd
              exact (List.getElem_cons_drop h1).symm
            have hix2 := run_at s (i + 1) d hd
            have hone2 := run_one s (i + 1) d hd
            rw [show ((i + 1 : Nat) : Int) = (i : Int) + 1 by omega] at hix2 hone2
            have hw2 : IntKind.i64.wrap ((i : Int) + 1 + 1) = (i : Int) + 1 + 1 := by rw [IntKind.wrap_i64]; omega
            have hQ2 := HQ.out
            rw [hd2, quotedL_b] at hQ2
            clear hd2 hd HQ
            by_cases d1 : d = 34
            · subst d1
              have HQ3 : Hid (o = onto (acc ++ [34]) (quotedL ((byt s).drop (i + 1 + 1)))) := by show _ = _; rw [hQ2]; simp only [unesc]; exact onto_onto _ _ _
              have HL3 : Hid ((acc ++ [34]).length ≤ i + 1 + 1) := by show _ ≤ _; simp; have := HL.out; omega
              have hz : acc.length + 1 ≤ 9223372036854775807 := by have := HL.out; omega
              clear hQ2 HL
              have E1 := str_cat acc [34]
              go_wp2_with fail
              go_roundg (gk - 2)
              case measure => omega
              case rel => exact ⟨i + 1 + 1, acc ++ [34], by go_num, by first | rfl | rw [← E1], by omega, HQ3, HL3, hid rfl⟩
            · by_cases d2 : d = 92
              · subst d2
                have HQ3 : Hid (o = onto (acc ++ [92]) (quotedL ((byt s).drop (i + 1 + 1)))) := by show _ = _; rw [hQ2]; simp only [unesc]; exact onto_onto _ _ _
                have HL3 : Hid ((acc ++ [92]).length ≤ i + 1 + 1) := by show _ ≤ _; simp; have := HL.out; omega
                have hz : acc.length + 1 ≤ 9223372036854775807 := by have := HL.out; omega
                clear hQ2 HL
                have E1 := str_cat acc [92]
                go_wp2_with fail
                go_roundg (gk - 2)
                case measure => omega
                case rel => exact ⟨i + 1 + 1, acc ++ [92], by go_num, by first | rfl | rw [← E1], by omega, HQ3, HL3, hid rfl⟩
              · by_cases d3 : d = 110
                · subst d3
                  have HQ3 : Hid (o = onto (acc ++ [10]) (quotedL ((byt s).drop (i + 1 + 1)))) := by show _ = _; rw [hQ2]; simp only [unesc]; exact onto_onto _ _ _
                  have HL3 : Hid ((acc ++ [10]).length ≤ i + 1 + 1) := by show _ ≤ _; simp; have := HL.out; omega
                  have hz : acc.length + 1 ≤ 9223372036854775807 := by have := HL.out; omega
                  clear hQ2 HL
                  have E1 := str_cat acc [10]
                  go_wp2_with fail
                  go_roundg (gk - 2)
                  case measure => omega
                  case rel => exact ⟨i + 1 + 1, acc ++ [10], by go_num, by first | rfl | rw [← E1], by omega, HQ3, HL3, hid rfl⟩
                · have HN : Hid (o = none) := by show _ = _; rw [hQ2]; simp [unesc, d1, d2, d3, onto]
                  have m1 : ¬ (d.toNat : Int) = 34 := fun h => by have := ne_u8 d1; simp [h] at this
                  have m2 : ¬ (d.toNat : Int) = 92 := fun h => by have := ne_u8 d2; simp [h] at this
                  have m3 : ¬ (d.toNat : Int) = 110 := fun h => by have := ne_u8 d3; simp [h] at this
                  clear hQ2 HL d1 d2 d3
                  go_wp2_with fail
                  refine bodyPost_ret (v := qrV s.size none) (by simp [results, Tryz.results78, go_sem, qrV]) rfl ⟨by rw [HN.out], rfl⟩
          · have hi4 : ¬ (i : Int) + 1 < s.size := by omega
            have hi5 : (s.size : Int) ≤ (i : Int) + 1 := by omega
            have HN : Hid (o = none) := by
              show _ = _
              rw [HQ.out, List.drop_eq_nil_of_le (by rw [byt_len]; omega), quotedL_b0]
              rfl
            clear HQ HL
            go_wp2_with fail
            refine bodyPost_ret (v := qrV s.size none) (by simp [results, Tryz.results78, go_sem, qrV]) rfl ⟨by rw [HN.out], rfl⟩
        · have HQ3 : Hid (o = onto (acc ++ [c]) (quotedL ((byt s).drop (i + 1)))) := by show _ = _; rw [HQ.out, quotedL_c _ c34 c92, onto_onto]
          have HL3 : Hid ((acc ++ [c]).length ≤ i + 1) := by show _ ≤ _; simp; have := HL.out; omega
          have hq : (c == 92) = false := beq_eq_false_iff_ne.2 c92
          have E1 := str_cat acc [c]
          have hz : acc.length + 1 ≤ 9223372036854775807 := by have := HL.out; omega
          clear HQ HL c34 c92
          go_wp2_with fail
          go_roundg (gk - 1)
          case measure => omega
          case rel => exact ⟨i + 1, acc ++ [c], by go_num, by first | rfl | rw [← E1], by omega, HQ3, HL3, hid rfl⟩
    · have hi2 : ¬ (i : Int) < s.size := by omega
      have hi3 : (s.size : Int) ≤ (i : Int) := by omega
      have HN : Hid (o = none) := by
        show _ = _
        rw [HQ.out, List.drop_eq_nil_of_le (by rw [byt_len]; omega)]
        rfl
      clear HQ HL
      go_wp2_with fail
      refine bodyPost_ret (v := qrV s.size none) (by simp [results, Tryz.results78, go_sem, qrV]) rfl ⟨by rw [HN.out], rfl⟩
end
end Go.Proofs.YtibhkldnimfnkaaGreatDoor

/- Script, the reference: a line's words. -/
namespace Go.Proofs.YtibhkldnimfnkaaGreatDoor
section
set_option linter.unusedVariables false
set_option linter.unusedSimpArgs false
set_option linter.unusedSectionVars false
open Go.RowKit

theorem onto_some2 {acc : Bs} {o : Option (Bs × Bs)} {t r : Bs} (h : onto acc o = some (t, r)) : ∃ t', o = some (t', r) := by
  cases o with
  | none => cases h
  | some p => obtain ⟨t', r'⟩ := p; simp [onto] at h; exact ⟨t', by rw [h.2]⟩
theorem quotedL_suf : ∀ (n : Nat) (s t r : Bs), s.length ≤ n → quotedL s = some (t, r) → ∃ p, s = p ++ r := by
  intro n
  induction n with
  | zero =>
    intro s t r hn h
    cases s with
    | nil => simp [quotedL] at h
    | cons => simp at hn
  | succ n ih =>
    intro s t r hn h
    cases s with
    | nil => simp [quotedL] at h
    | cons c s =>
      simp only [List.length_cons] at hn
      by_cases h1 : c = 34
      · subst h1
        rw [quotedL_q] at h
        split at h
        · cases h; exact ⟨[34], rfl⟩
        · cases h
      · by_cases h2 : c = 92
        · subst h2
          cases s with
          | nil => rw [quotedL_b0] at h; cases h
          | cons d s =>
            rw [quotedL_b] at h
            split at h
            · cases h
            · obtain ⟨t', h3⟩ := onto_some2 h
              obtain ⟨p, rfl⟩ := ih s t' r (by simp at hn; omega) h3
              exact ⟨92 :: d :: p, rfl⟩
        · rw [quotedL_c s h1 h2] at h
          obtain ⟨t', h3⟩ := onto_some2 h
          obtain ⟨p, rfl⟩ := ih s t' r (by omega) h3
          exact ⟨c :: p, rfl⟩
theorem quotedL_drop {s : Bs} {i : Nat} {t r : Bs} (h : quotedL (s.drop i) = some (t, r)) : s.drop (s.length - r.length) = r ∧ r.length ≤ s.length - i := by
  obtain ⟨p, hp⟩ := quotedL_suf _ _ _ _ (Nat.le_refl _) h
  have hl : (s.drop i).length = p.length + r.length := by rw [hp]; simp
  rw [List.length_drop] at hl
  refine ⟨?_, by omega⟩
  have h2 : (s.drop i).drop p.length = r := by rw [hp]; simp
  rw [List.drop_drop] at h2
  rcases Nat.eq_zero_or_pos (p.length + r.length) with h0 | h0
  · have : r = [] := List.eq_nil_of_length_eq_zero (by omega)
    subst this
    exact List.drop_eq_nil_of_le (by simp)
  · rw [show s.length - r.length = i + p.length by omega]
    exact h2
theorem wr_el : (Tryz.prog.info? 107).map (fun i => (i.zero, i.size, i.bytes)) = some (some (.agg #[.string mt0, .bool false]), 2, 24) := by kernel_rfl
/-- A piece of a text. -/
theorem run_mid (s : ByteArray) (i j : Nat) (hij : i ≤ j) (hj : j ≤ s.size) (w : World) : (Instr.slice 9 (.string s) (some (.int .i64 (i : Int))) (some (.int .i64 (j : Int))) none).run Tryz.prog w = .ok (.string (str (((byt s).drop i).take (j - i)))) w := by
  rw [run_slice_string_if w 9 s .i64 .i64 i j Tryz.underlying9, if_pos (by omega), if_pos (by omega)]
  have e : s.extract (i : Int).toNat (j : Int).toNat = str (((byt s).drop i).take (j - i)) := by
    rw [← str_byt (s.extract _ _)]
    refine congrArg str ?_
    show (s.extract (i : Int).toNat (j : Int).toNat).data.toList = _
    simp only [Int.toNat_natCast, ByteArray.data_extract, Array.toList_extract, List.extract_eq_take_drop]
  rw [e]

/-- What is left of a line's words at a place. -/
def Wat (s : Bs) (i : Nat) (pre : List Wd) (o : List Wd × Bool) : Prop := o.1 = pre ++ (wordsL (s.drop i)).1 ∧ o.2 = (wordsL (s.drop i)).2
theorem wordsL_skip {c : UInt8} {t : Bs} (h : isBlank c = true) : wordsL (c :: t) = wordsL t := by
  rw [wordsL_eq, List.dropWhile_cons, h, if_pos rfl, wordsL_eq t]
theorem wordsL_rem {t : Bs} : wordsL (35 :: t) = ([], true) := by
  rw [wordsL_eq, List.dropWhile_cons]
  rfl
theorem wordsL_quo {t : Bs} : wordsL (34 :: t) = match quotedL t with
    | none => ([], false)
    | some (x, r) => (⟨x, true⟩ :: (wordsL r).1, (wordsL r).2) := by
  rw [wordsL_eq, List.dropWhile_cons]
  rfl
abbrev nb (c : UInt8) : Bool := !isBlank c
theorem wordsL_bare {c : UInt8} {t : Bs} (h : isBlank c = false) (h1 : ¬ c = 35) (h2 : ¬ c = 34) : wordsL (c :: t) =
    (⟨(c :: t).takeWhile nb, false⟩ :: (wordsL ((c :: t).dropWhile nb)).1, (wordsL ((c :: t).dropWhile nb)).2) := by
  rw [wordsL_eq, List.dropWhile_cons, h, if_neg (by decide)]
  simp only [beq_eq_false_iff_ne.2 h1, beq_eq_false_iff_ne.2 h2, Bool.false_eq_true, if_false]

theorem wordsL_len2 (s : Bs) : (wordsL s).1.length ≤ s.length := by
  have key : ∀ (n : Nat) (s : Bs), (wordsN n s).1.length ≤ s.length := by
    intro n
    induction n with
    | zero => intro s; simp [wordsN]
    | succ n ih =>
      intro s
      unfold wordsN
      have hd := drop_len isBlank s
      cases e : s.dropWhile isBlank with
      | nil => simp
      | cons c t =>
        rw [e] at hd
        simp only [List.length_cons] at hd
        simp only
        split
        · simp
        · split
          · cases hq : quotedL t with
            | none => simp
            | some p =>
              obtain ⟨x, r⟩ := p
              have := quotedL_len _ t (Nat.le_refl _) x r hq
              have := ih r
              simp
              omega
          · have hb := drop_head isBlank s c t e
            have hl : ((c :: t).dropWhile fun c => !isBlank c).length ≤ t.length := by
              rw [List.dropWhile_cons, hb]
              exact drop_len _ t
            have := ih ((c :: t).dropWhile fun c => !isBlank c)
            simp only [List.length_cons]
            omega
  exact key _ s

set_option maxRecDepth 100000 in
set_option maxHeartbeats 4000000 in
theorem words_r (s : ByteArray) (w : World) (hs : s.size < 4294967000) :
    Calls Tryz.prog 44 #[.string s] w fun e w' => Mod [] w w' ∧ ∃ v L, e = .returned (.tuple #[v, .bool (wordsL (byt s)).2]) ∧ Own w' 107 2 v (wordsL (byt s)).1.length (flat wdC (wordsL (byt s)).1) L ∧ ∀ k ∈ L, w.heap.size ≤ k := by
  obtain ⟨o, ho⟩ : ∃ o, o = wordsL (byt s) := ⟨_, rfl⟩
  rw [← ho]
  have hlen : o.1.length ≤ s.size := by rw [ho, ← byt_len]; exact wordsL_len2 _
  have HLen := hid hlen
  have HO : Hid (Wat (byt s) 0 [] o) := by rw [ho]; exact ⟨rfl, rfl⟩
  clear ho hlen
  go_enter Tryz.func44, Tryz.ntmps44
  go_wp2_with fail
  go_loopg [4, 5] s.size (fun g v p wr => ∃ (i : Nat) (pre : List Wd) (L : List Nat), p = .int .i64 (i : Int) ∧ i + g = s.size ∧ Hid (Wat (byt s) i pre o) ∧ Hid (Own wr 107 2 v pre.length (flat wdC pre) L) ∧ Hid (∀ k ∈ L, w.heap.size ≤ k) ∧ Hid (Mod [] w wr))
  · exact ⟨0, [], [], rfl, by omega, HO, Own.nil _ _ _, hid (by simp), hid (Mod.refl _ _)⟩
  · obtain ⟨i, pre, L, rfl, hig, HQ, HW, HL, HM⟩ := hrel
    clear HO
    have hpl : pre.length ≤ s.size := by have h1 := HQ.out.1; have h2 := HLen.out; rw [h1, List.length_append] at h2; omega
    by_cases hi : i < s.size
    · have hi2 : (i : Int) < s.size := by omega
      have hi0 : (0 : Int) ≤ (i : Int) := by omega
      obtain ⟨c, hc⟩ : ∃ c, (byt s)[i]? = some c := ⟨_, byt_at s i hi⟩
      have hd : (byt s).drop i = c :: (byt s).drop (i + 1) := by
        obtain ⟨h1, rfl⟩ := List.getElem?_eq_some_iff.1 hc
        exact (List.getElem_cons_drop h1).symm
      have hix := run_at s i c hc
      have hw1 : IntKind.i64.wrap ((i : Int) + 1) = (i : Int) + 1 := by rw [IntKind.wrap_i64]; omega
      have HC := hid (blank_r c wr)
      have HQ1 := HQ.out
      unfold Wat at HQ1
      rw [hd] at HQ1
      clear HQ
      cases hb : isBlank c
      · rw [hb] at HC
        by_cases c35 : c = 35
        · subst c35
          rw [wordsL_rem] at HQ1
          obtain ⟨q1, q2⟩ := HQ1
          have ho : o = (pre, true) := Prod.ext (by rw [q1]; simp) q2
          subst ho
          clear hd hb q1 q2
          go_wp2_with fail
          refine HC.out.mono ?_
          rintro e w2 ⟨rfl, rfl⟩
          go_wp2_with fail
          refine bodyPost_ret (by simp [results, Tryz.results44, go_sem]) rfl ⟨HM.out, _, rfl, L, HW.out, HL.out⟩
        · have n35 : ¬ (c.toNat : Int) = 35 := fun h => by have := ne_u8 c35; simp [h] at this
          by_cases c34 : c = 34
          · subst c34
            rw [wordsL_quo] at HQ1
            obtain ⟨q, hq⟩ : ∃ q, quotedL ((byt s).drop (i + 1)) = q := ⟨_, rfl⟩
            rw [hq] at HQ1
            have HQC := hid (quoted_r s i wr hi hs q hq)
            rcases q with _ | ⟨t, r⟩
            · obtain ⟨q1, q2⟩ := HQ1
              have ho : o = (pre, false) := Prod.ext (by rw [q1]; simp) q2
              subst ho
              clear hd hb q1 q2 hq c35
              simp only [qrV] at HQC
              go_wp2_with fail
              refine HC.out.mono ?_
              rintro e w2 ⟨rfl, rfl⟩
              go_wp2_with fail
              refine HQC.out.mono ?_
              rintro e w2 ⟨rfl, rfl⟩
              go_wp2_with fail
              refine bodyPost_ret (by simp [results, Tryz.results44, go_sem]) rfl ⟨HM.out, _, rfl, L, HW.out, HL.out⟩
            · obtain ⟨hdr, hrl⟩ := quotedL_drop hq
              rw [byt_len] at hdr hrl
              have HQ2 : Hid (Wat (byt s) (s.size - r.length) (pre ++ [⟨t, true⟩]) o) := by
                show Wat _ _ _ _
                unfold Wat
                rw [hdr, HQ1.1, HQ1.2]
                simp
              have hil : i < s.size - r.length := by omega
              have hel : s.size - r.length ≤ s.size := by omega
              obtain ⟨en, hen⟩ : ∃ en, en = s.size - r.length := ⟨_, rfl⟩
              simp only [qrV] at HQC
              rw [← hen] at HQ2 hil hel HQC
              clear hd hb hq c35 HQ1 hdr hrl hen
              have hmA := (Mod.refl [] wr).alloc (.cells (wdC ⟨t, true⟩).toArray 107)
              have HMA := hid (HM.out.tr hmA)
              have HOA := hid (HW.out.mod hmA (by simp))
              have HR : Hid (Rdl (wr.alloc (.cells (wdC ⟨t, true⟩).toArray 107)) 2 (.slice (some ⟨wr.heap.size, 0, none⟩) 1 1) 1 (wdC ⟨t, true⟩)) := by
                refine ⟨rfl, Or.inr ⟨wr.heap.size, 0, 1, rfl, fun j hj => ?_⟩⟩
                rw [Nat.zero_add, (Blk.new wr _ _).cell]
                simp
              have hone := wd_lays.one ⟨t, true⟩
              clear hmA HM HW
              go_wp2_with fail
              refine HC.out.mono ?_
              rintro e w2 ⟨rfl, rfl⟩
              go_wp2_with fail
              refine HQC.out.mono ?_
              rintro e w2 ⟨rfl, rfl⟩
              go_wp2_with (at_builtin; refine wpList_append_rdl rfl (.tmp 39) (.tmp 42) 101 107 rfl Tryz.underlying101 wr_el rfl (by decide) rfl HOA.out rfl HR.out hone (by omega) (by omega) ?_; intro v1 w2 L1 g2 g3 g4)
              have HO2 : Hid (Own w2 107 2 v1 (pre ++ [(⟨t, true⟩ : Wd)]).length (flat wdC (pre ++ [⟨t, true⟩])) L1) := by
                have e : flat wdC (pre ++ [⟨t, true⟩]) = flat wdC pre ++ wdC ⟨t, true⟩ := by simp [flat]
                show Own _ _ _ _ _ _ _
                rw [e, List.length_append]
                exact g2.out
              have HM2 : Hid (Mod [] w w2) := HMA.out.trans g3.out (fun _ h _ => h) (fun y hy hlt => by have := HL.out y hy; omega)
              have HL2 : Hid (∀ k ∈ L1, w.heap.size ≤ k) := fun k hk => by
                rcases g4.out k hk with h | h
                · exact HL.out k h
                · have := HMA.out.size; exact Nat.le_trans this h
              clear g2 g3 g4
              go_roundg (gk - (en - i))
              case measure => omega
              case rel => exact ⟨en, pre ++ [⟨t, true⟩], L1, rfl, by omega, HQ2, HO2, HL2, HM2⟩
          · have n34 : ¬ (c.toNat : Int) = 34 := fun h => by have := ne_u8 c34; simp [h] at this
            rw [wordsL_bare hb c35 c34, ← hd] at HQ1
            have HCI : Hid ((byt s)[i]? = some c ∧ isBlank c = false) := ⟨hc, hb⟩
            have HT0 : Hid (((byt s).drop i).takeWhile nb = ((byt s).drop i).take (i - i) ++ ((byt s).drop i).takeWhile nb) := by show _ = _; simp
            have HQ1' := hid HQ1
            clear hd hb c35 c34 HQ1 hc
            go_wp2_with fail
            refine HC.out.mono ?_
            rintro e w2 ⟨rfl, rfl⟩
            go_wp2_with fail
            rw [beq_eq_false_iff_ne.2 n35, beq_eq_false_iff_ne.2 n34]
            go_loopg [9] (s.size - i) (fun g p wx => ∃ (j : Nat), p = .int .i64 (j : Int) ∧ j + g = s.size ∧ i ≤ j ∧ (wx = w2) ∧ Hid (((byt s).drop i).takeWhile nb = ((byt s).drop i).take (j - i) ++ ((byt s).drop j).takeWhile nb) ∧ Hid (((byt s).drop i).dropWhile nb = ((byt s).drop j).dropWhile nb))
            · exact ⟨i, rfl, by omega, Nat.le_refl _, rfl, HT0, hid rfl⟩
            · obtain ⟨j, rfl, hjg, hij, rfl, HT, HD⟩ := hrel
              obtain ⟨X, hX⟩ : ∃ X, X = wr.alloc (.cells (wdC ⟨((byt s).drop i).take (j - i), false⟩).toArray 107) := ⟨_, rfl⟩
              have HX := hid hX
              by_cases hj : j < s.size
              · have hj2 : (j : Int) < s.size := by omega
                have hj0 : (0 : Int) ≤ (j : Int) := by omega
                obtain ⟨d, hd⟩ : ∃ d, (byt s)[j]? = some d := ⟨_, byt_at s j hj⟩
                have hd2 : (byt s).drop j = d :: (byt s).drop (j + 1) := by
                  obtain ⟨h1, rfl⟩ := List.getElem?_eq_some_iff.1 hd
                  exact (List.getElem_cons_drop h1).symm
                have hixj := run_at s j d hd
                have HCJ := hid (blank_r d wr)
                cases hb : isBlank d
                · have hT := HT.out
                  have hD := HD.out
                  have hnb : nb d = true := by simp [nb, hb]
                  rw [hd2, List.takeWhile_cons, hnb, if_pos rfl] at hT
                  rw [hd2, List.dropWhile_cons, hnb, if_pos rfl] at hD
                  have HT2 : Hid (((byt s).drop i).takeWhile nb = ((byt s).drop i).take (j + 1 - i) ++ ((byt s).drop (j + 1)).takeWhile nb) := by
                    show _ = _
                    rw [hT]
                    have hg : ((byt s).drop i)[j - i]? = some d := by rw [List.getElem?_drop, show i + (j - i) = j by omega]; exact hd
                    rw [show j + 1 - i = (j - i) + 1 by omega, List.take_add_one, hg]
                    simp
                  have HD2 := hid hD
                  rw [hb] at HCJ
                  clear hT hD hnb hb hd2 hd HT HD hX
                  go_wp2_with fail
                  refine HCJ.out.mono ?_
                  rintro e w3 ⟨rfl, rfl⟩
                  go_wp2_with fail
                  go_roundg (gk - 1)
                  case measure => omega
                  case rel => exact ⟨j + 1, by go_num, by omega, by omega, rfl, HT2, HD2⟩
                · have hnb : nb d = false := by simp [nb, hb]
                  have HW2 : Hid (Wat (byt s) j (pre ++ [⟨((byt s).drop i).take (j - i), false⟩]) o) := by
                    have hT := HT.out
                    have hD := HD.out
                    rw [hd2, List.takeWhile_cons, hnb, if_neg (by decide), List.append_nil] at hT
                    rw [hd2, List.dropWhile_cons, hnb, if_neg (by decide), ← hd2] at hD
                    have h1 := HQ1'.out
                    rw [hT, hD] at h1
                    refine ⟨?_, h1.2⟩
                    rw [h1.1]
                    simp
                  have hij2 : i < j := by
                    rcases Nat.lt_or_ge i j with h | h
                    · exact h
                    · have : i = j := by omega
                      subst this
                      have h2 := HCI.out.1
                      rw [hd] at h2
                      cases h2
                      rw [HCI.out.2] at hb
                      cases hb
                  have hjle : j ≤ s.size := by omega
                  have hmid := run_mid s i j (by omega) hjle
                  obtain ⟨tx, htx⟩ : ∃ tx, tx = ((byt s).drop i).take (j - i) := ⟨_, rfl⟩
                  rw [← htx] at HW2 hmid
                  rw [hb] at HCJ
                  clear hnb hb hd2 hd HT HD htx HX hX
                  have hmA := (Mod.refl [] wr).alloc (.cells (wdC ⟨tx, false⟩).toArray 107)
                  have HMA := hid (HM.out.tr hmA)
                  have HOA := hid (HW.out.mod hmA (by simp))
                  have HR : Hid (Rdl (wr.alloc (.cells (wdC ⟨tx, false⟩).toArray 107)) 2 (.slice (some ⟨wr.heap.size, 0, none⟩) 1 1) 1 (wdC ⟨tx, false⟩)) := by
                    refine ⟨rfl, Or.inr ⟨wr.heap.size, 0, 1, rfl, fun j hj => ?_⟩⟩
                    rw [Nat.zero_add, (Blk.new wr _ _).cell]
                    simp
                  have hone := wd_lays.one ⟨tx, false⟩
                  clear hmA HM HW
                  go_wp2_with fail
                  refine HCJ.out.mono ?_
                  rintro e w3 ⟨rfl, rfl⟩
                  go_wp2_with (at_builtin; refine wpList_append_rdl rfl (.tmp 59) (.tmp 65) 101 107 rfl Tryz.underlying101 wr_el rfl (by decide) rfl HOA.out rfl HR.out hone (by omega) (by omega) ?_; intro v1 w2 L1 g2 g3 g4)
                  have HO2 : Hid (Own w2 107 2 v1 (pre ++ [(⟨tx, false⟩ : Wd)]).length (flat wdC (pre ++ [⟨tx, false⟩])) L1) := by
                    have e : flat wdC (pre ++ [⟨tx, false⟩]) = flat wdC pre ++ wdC ⟨tx, false⟩ := by simp [flat]
                    show Own _ _ _ _ _ _ _
                    rw [e, List.length_append]
                    exact g2.out
                  have HM2 : Hid (Mod [] w w2) := HMA.out.trans g3.out (fun _ h _ => h) (fun y hy hlt => by have := HL.out y hy; omega)
                  have HL2 : Hid (∀ k ∈ L1, w.heap.size ≤ k) := fun k hk => by
                    rcases g4.out k hk with h | h
                    · exact HL.out k h
                    · have := HMA.out.size; exact Nat.le_trans this h
                  clear g2 g3 g4
                  go_roundg (s.size - j)
                  case measure => omega
                  case rel => exact ⟨j, pre ++ [⟨tx, false⟩], L1, rfl, by omega, HW2, HO2, HL2, HM2⟩
              · have HW2 : Hid (Wat (byt s) j (pre ++ [⟨((byt s).drop i).take (j - i), false⟩]) o) := by
                  have hT := HT.out
                  have hD := HD.out
                  have hd2 : (byt s).drop j = [] := List.drop_eq_nil_of_le (by rw [byt_len]; omega)
                  rw [hd2, List.takeWhile_nil, List.append_nil] at hT
                  rw [hd2, List.dropWhile_nil, ← hd2] at hD
                  have h1 := HQ1'.out
                  rw [hT, hD] at h1
                  refine ⟨?_, h1.2⟩
                  rw [h1.1]
                  simp
                have hj2 : ¬ (j : Int) < s.size := by omega
                have hjle : j ≤ s.size := by omega
                have hij2 : i < j := by omega
                have hmid := run_mid s i j (by omega) hjle
                obtain ⟨tx, htx⟩ : ∃ tx, tx = ((byt s).drop i).take (j - i) := ⟨_, rfl⟩
                rw [← htx] at HW2 hmid
                clear HT HD htx HX hX
                have hmA := (Mod.refl [] wr).alloc (.cells (wdC ⟨tx, false⟩).toArray 107)
                have HMA := hid (HM.out.tr hmA)
                have HOA := hid (HW.out.mod hmA (by simp))
                have HR : Hid (Rdl (wr.alloc (.cells (wdC ⟨tx, false⟩).toArray 107)) 2 (.slice (some ⟨wr.heap.size, 0, none⟩) 1 1) 1 (wdC ⟨tx, false⟩)) := by
                  refine ⟨rfl, Or.inr ⟨wr.heap.size, 0, 1, rfl, fun j hj => ?_⟩⟩
                  rw [Nat.zero_add, (Blk.new wr _ _).cell]
                  simp
                have hone := wd_lays.one ⟨tx, false⟩
                clear hmA HM HW
                go_wp2_with (at_builtin; refine wpList_append_rdl rfl (.tmp 59) (.tmp 65) 101 107 rfl Tryz.underlying101 wr_el rfl (by decide) rfl HOA.out rfl HR.out hone (by omega) (by omega) ?_; intro v1 w2 L1 g2 g3 g4)
                have HO2 : Hid (Own w2 107 2 v1 (pre ++ [(⟨tx, false⟩ : Wd)]).length (flat wdC (pre ++ [⟨tx, false⟩])) L1) := by
                  have e : flat wdC (pre ++ [⟨tx, false⟩]) = flat wdC pre ++ wdC ⟨tx, false⟩ := by simp [flat]
                  show Own _ _ _ _ _ _ _
                  rw [e, List.length_append]
                  exact g2.out
                have HM2 : Hid (Mod [] w w2) := HMA.out.trans g3.out (fun _ h _ => h) (fun y hy hlt => by have := HL.out y hy; omega)
                have HL2 : Hid (∀ k ∈ L1, w.heap.size ≤ k) := fun k hk => by
                  rcases g4.out k hk with h | h
                  · exact HL.out k h
                  · have := HMA.out.size; exact Nat.le_trans this h
                clear g2 g3 g4
                go_roundg (s.size - j)
                case measure => omega
                case rel => exact ⟨j, pre ++ [⟨tx, false⟩], L1, rfl, by omega, HW2, HO2, HL2, HM2⟩
      · rw [hb] at HC
        have HQ2 : Hid (Wat (byt s) (i + 1) pre o) := by
          rw [wordsL_skip hb] at HQ1
          exact HQ1
        clear HQ1 hd hb
        go_wp2_with fail
        refine HC.out.mono ?_
        rintro e w2 ⟨rfl, rfl⟩
        go_wp2_with fail
        go_roundg (gk - 1)
        case measure => omega
        case rel => exact ⟨i + 1, pre, L, by go_num, by omega, HQ2, HW, HL, HM⟩
    · have hi2 : ¬ (i : Int) < s.size := by omega
      have ho : o = (pre, true) := by
        have h0 : (byt s).drop i = [] := List.drop_eq_nil_of_le (by rw [byt_len]; omega)
        have h1 := HQ.out
        unfold Wat at h1
        rw [h0] at h1
        refine Prod.ext ?_ ?_
        · rw [h1.1]; show pre ++ [] = pre; simp
        · rw [h1.2]; rfl
      subst ho
      clear HQ
      go_wp2_with fail
      refine bodyPost_ret (by simp [results, Tryz.results44, go_sem]) rfl ⟨HM.out, _, rfl, L, HW.out, HL.out⟩
end
end Go.Proofs.YtibhkldnimfnkaaGreatDoor
