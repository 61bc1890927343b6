/- Script: parts B3 B4. -/
import Derived.Test.YtibhkldnimfnkaaGreatDoorG21

/- Script, the reference: a number. -/
namespace Go.Proofs.YtibhkldnimfnkaaGreatDoor
section
set_option linter.unusedVariables false
set_option linter.unusedSimpArgs false
set_option linter.unusedSectionVars false
open Go.RowKit

theorem val_snoc (l : Bs) (c : UInt8) : valN (l ++ [c]) = 10 * valN l + (c.toNat - 48) := by simp [valN]
theorem numW_bad {t : Bs} (h : t.all isDigit = false) : numW ⟨t, false⟩ = false := by simp [numW, h]
/-- What a number of the reference comes to. -/
def NrG (o : Option Nat) (w : World) (e : Ending) (w' : World) : Prop := Mod [] w w' ∧ ∃ n : Nat, e = .returned (.tuple #[.int .u64 (n : Int), .bool o.isSome]) ∧ n < 10000000000000 ∧ ∀ m, o = some m → n = m
set_option maxRecDepth 100000 in
set_option maxHeartbeats 4000000 in
theorem number_r (x : Wd) (lo hi : Nat) (w : World) (hx : x.text.length < 4294967000) : Calls Tryz.prog 79 #[wdV x, .int .u64 (lo : Int), .int .u64 (hi : Int)] w (NrG (numL x lo hi) w) := by
  obtain ⟨t, q⟩ := x
  obtain ⟨o, ho⟩ : ∃ o, o = numL ⟨t, q⟩ lo hi := ⟨_, rfl⟩
  rw [← ho]
  have HO := hid ho
  obtain ⟨W, hW⟩ : ∃ W, W = w.alloc (.cells #[.string (str t), .bool q] 107) := ⟨_, rfl⟩
  have HM : Hid (Mod [] w W) := by rw [hW]; exact (Mod.refl [] w).alloc _
  clear ho
  have no : numW ⟨t, q⟩ = false → o = none := fun h => by rw [HO.out, numL, h]; rfl
  have fin : o = none → NrG o w (.returned (.tuple #[.int .u64 0, .bool false])) W := by rintro rfl; exact ⟨HM.out, 0, rfl, by decide, by simp⟩
  have FIN := hid fin
  clear fin
  simp only [wdV] at *
  cases q
  · rcases t with _ | ⟨c, t⟩
    · have HN := hid (no rfl)
      clear no
      go_enter Tryz.func79, Tryz.ntmps79
      go_wp2_with fail
      rw [← hW]
      refine bodyPost_ret (v := .tuple #[.int .u64 0, .bool false]) (by simp [results, Tryz.results79, go_sem]) rfl (FIN.out HN.out)
    · by_cases h13 : (c :: t).length ≤ 13
      · have z13 : (t.length : Int) + 1 ≤ 13 := by simp at h13; omega
        have hix0 : ∀ w, (Instr.index 9 (.string (str (c :: t))) (.int .i64 0)).run Tryz.prog w = .ok (.int .u8 (c.toNat : Int)) w := fun w => run_at (str (c :: t)) 0 c rfl w
        by_cases h0 : c = 48 ∧ 1 ≤ t.length
        · obtain ⟨rfl, ht⟩ := h0
          have hnz : ¬ t = [] := fun h => by subst h; simp at ht
          have hnz2 : ¬ t.length = 0 := by omega
          have z1 : (1 : Int) < (t.length : Int) + 1 := by omega
          have HN := hid (no (by simp [numW, hnz, hnz2]))
          clear no hnz hnz2
          go_enter Tryz.func79, Tryz.ntmps79
          go_wp2_with fail
          rw [← hW]
          refine bodyPost_ret (v := .tuple #[.int .u64 0, .bool false]) (by simp [results, Tryz.results79, go_sem]) rfl (FIN.out HN.out)
        · obtain ⟨T, hTe⟩ : ∃ T, T = c :: t := ⟨_, rfl⟩
          have hTl : T.length = t.length + 1 := by rw [hTe]; rfl
          have hTl13 : T.length ≤ 13 := by rw [hTl]; simpa using h13
          have hnum : T.all isDigit = true → numW ⟨T, false⟩ = true := by
            intro h
            rw [hTe] at h ⊢
            have hh : (c ≠ 48 ∨ t.length = 0) := by
              rcases Classical.em (c = 48) with h1 | h1
              · right
                rcases Nat.eq_zero_or_pos t.length with h2 | h2
                · exact h2
                · exact absurd ⟨h1, h2⟩ h0
              · exact Or.inl h1
            simp at h13
            rcases hh with h1 | h1
            · simp only [numW, h]; simp [h1]; omega
            · simp only [numW, h]; simp [h1]
          have HNUM := hid hnum
          rw [← hTe] at hix0 HO no hW ⊢
          clear hnum h13
          have hd : (¬ (c.toNat : Int) = 48 ∧ True) ∨ ((c.toNat : Int) = 48 ∧ ¬ (1 : Int) < (T.length : Int)) := by
            by_cases h1 : c = 48
            · exact Or.inr ⟨by rw [h1]; rfl, fun h => h0 ⟨h1, by omega⟩⟩
            · exact Or.inl ⟨fun h => by have := ne_u8 h1; simp [h] at this, trivial⟩
          have z13 : (T.length : Int) ≤ 13 := by omega
          have z0 : ¬ (T.length : Int) < 1 := by omega
          have z00 : 0 < T.length := by omega
          have HWd := hid hW
          clear h0 hTe hTl hx hW
          rcases hd with ⟨z1, z2⟩ | ⟨z1, z2⟩
          all_goals
            go_enter Tryz.func79, Tryz.ntmps79
            go_wp2_with fail
            rw [← HWd.out]
            go_loopg [9, 10] T.length (fun g u p wr => ∃ (i : Nat), u = .int .u64 (valN (T.take i) : Nat) ∧ p = .int .i64 (i : Int) ∧ i + g = T.length ∧ wr = W ∧ Hid ((T.take i).all isDigit = true))
            · exact ⟨0, rfl, rfl, by omega, rfl, hid rfl⟩
            · obtain ⟨i, rfl, rfl, hig, rfl, HD⟩ := hrel
              have hv := val_lt (T.take i) (by rw [List.length_take]; omega) HD.out
              rw [show (10 : Nat) ^ 13 = 10000000000000 from rfl] at hv
              by_cases hit : i < T.length
              · have hi2 : (i : Int) < T.length := by omega
                obtain ⟨d, hd⟩ : ∃ d, T[i]? = some d := ⟨_, List.getElem?_eq_getElem hit⟩
                have hix := run_at (str T) i d hd
                have htk : T.take (i + 1) = T.take i ++ [d] := by rw [List.take_add_one, hd]; rfl
                have hwi : IntKind.i64.wrap ((i : Int) + 1) = (i : Int) + 1 := by rw [IntKind.wrap_i64]; omega
                have hdl := d.toNat_lt
                cases hb : isDigit d
                · have HN : Hid (o = none) := no (numW_bad (by
                    rw [← List.take_append_drop (i + 1) T, List.all_append, htk, List.all_append]
                    simp [hb]))
                  have hdd : ((d.toNat : Int) < 48 ∧ True) ∨ (¬ (d.toNat : Int) < 48 ∧ 57 < (d.toNat : Int)) := by
                    have hb2 : ¬ (48 ≤ d.toNat ∧ d.toNat ≤ 57) := by
                      intro h
                      rw [isDigit, decide_eq_true h.1, decide_eq_true h.2] at hb
                      cases hb
                    by_cases h : d.toNat < 48
                    · exact Or.inl ⟨by omega, trivial⟩
                    · exact Or.inr ⟨by omega, by omega⟩
                  clear no hb htk hd
                  rcases hdd with ⟨y1, y2⟩ | ⟨y1, y2⟩
                  · go_wp2_with fail
                    refine bodyPost_ret (v := .tuple #[.int .u64 0, .bool false]) (by simp [results, Tryz.results79, go_sem]) rfl (FIN.out HN.out)
                  · go_wp2_with fail
                    refine bodyPost_ret (v := .tuple #[.int .u64 0, .bool false]) (by simp [results, Tryz.results79, go_sem]) rfl (FIN.out HN.out)
                · simp only [isDigit, Bool.and_eq_true, decide_eq_true_eq] at hb
                  have y1 : ¬ (d.toNat : Int) < 48 := by omega
                  have y2 : ¬ 57 < (d.toNat : Int) := by omega
                  have hvs := val_snoc (T.take i) d
                  rw [← htk] at hvs
                  have HD2 : Hid ((T.take (i + 1)).all isDigit = true) := by
                    show _ = _
                    rw [htk, List.all_append, HD.out]
                    simp [isDigit]
                    omega
                  generalize valN (T.take i) = v at hv hvs
                  have hw1 : IntKind.u64.wrap (10 * (v : Int)) = 10 * (v : Int) := by rw [IntKind.wrap_u64]; omega
                  have hw2 : IntKind.u8.wrap ((d.toNat : Int) - 48) = (d.toNat : Int) - 48 := by rw [IntKind.wrap_u8]; omega
                  have hw3 : IntKind.u64.wrap ((d.toNat : Int) - 48) = (d.toNat : Int) - 48 := by rw [IntKind.wrap_u64]; omega
                  have hw4 : IntKind.u64.wrap (10 * (v : Int) + ((d.toNat : Int) - 48)) = 10 * (v : Int) + ((d.toNat : Int) - 48) := by rw [IntKind.wrap_u64]; omega
                  have HVS := hid hvs
                  clear htk hd hb no hvs
                  go_wp2_with fail
                  go_roundg (gk - 1)
                  case measure => omega
                  case rel => exact ⟨i + 1, by rw [HVS.out]; go_num, by go_num, by omega, rfl, HD2⟩
              · have hi2 : ¬ (i : Int) < T.length := by omega
                have htk : T.take i = T := List.take_of_length_le (by omega)
                rw [htk] at hv HD ⊢
                have hnw := HNUM.out HD.out
                have HN2 : Hid (o = if lo ≤ valN T ∧ valN T ≤ hi then some (valN T) else none) := by
                  show _ = _
                  rw [HO.out, numL, hnw]
                  simp
                generalize valN T = v at hv HN2
                have HV := hid hv
                clear hnw htk no hv hit
                by_cases g1 : lo ≤ v
                · have k1 : (lo : Int) ≤ (v : Int) := by omega
                  by_cases g2 : v ≤ hi
                  · have k2 : (v : Int) ≤ (hi : Int) := by omega
                    have HN : Hid (o = some v) := by show _ = _; rw [HN2.out, if_pos ⟨g1, g2⟩]
                    clear HN2 HO
                    go_wp2_with fail
                    refine bodyPost_ret (v := .tuple #[.int .u64 (v : Int), .bool true]) (by simp [results, Tryz.results79, go_sem, k1]) rfl ⟨HM.out, v, ?_, HV.out, ?_⟩
                    · rw [HN.out]; rfl
                    · rw [HN.out]; intro m hm; cases hm; rfl
                  · have k2 : ¬ (v : Int) ≤ (hi : Int) := by omega
                    have HN : Hid (o = none) := by show _ = _; rw [HN2.out, if_neg (fun h => g2 h.2)]
                    clear HN2 HO
                    go_wp2_with fail
                    refine bodyPost_ret (v := .tuple #[.int .u64 (v : Int), .bool false]) (by simp [results, Tryz.results79, go_sem, k1]) rfl ⟨HM.out, v, ?_, HV.out, ?_⟩
                    · rw [HN.out]; rfl
                    · rw [HN.out]; intro m hm; cases hm
                · have k1 : ¬ (lo : Int) ≤ (v : Int) := by omega
                  have HN : Hid (o = none) := by show _ = _; rw [HN2.out, if_neg (fun h => g1 h.1)]
                  clear HN2 HO
                  go_wp2_with fail
                  refine bodyPost_ret (v := .tuple #[.int .u64 (v : Int), .bool false]) (by simp [results, Tryz.results79, go_sem, k1]) rfl ⟨HM.out, v, ?_, HV.out, ?_⟩
                  · rw [HN.out]; rfl
                  · rw [HN.out]; intro m hm; cases hm
      · have HN := hid (no (by simp [numW]; simp at h13; omega))
        have z13 : ¬ (t.length : Int) + 1 ≤ 13 := by simp at h13; omega
        clear no
        go_enter Tryz.func79, Tryz.ntmps79
        go_wp2_with fail
        rw [← hW]
        refine bodyPost_ret (v := .tuple #[.int .u64 0, .bool false]) (by simp [results, Tryz.results79, go_sem]) rfl (FIN.out HN.out)
  · have HN := hid (no numW_bare)
    clear no
    go_enter Tryz.func79, Tryz.ntmps79
    go_wp2_with fail
    rw [← hW]
    refine bodyPost_ret (v := .tuple #[.int .u64 0, .bool false]) (by simp [results, Tryz.results79, go_sem]) rfl (FIN.out HN.out)
end
end Go.Proofs.YtibhkldnimfnkaaGreatDoor

/- Script, the reference: a quoted word, as it is printed; digits. -/
namespace Go.Proofs.YtibhkldnimfnkaaGreatDoor
section
set_option linter.unusedVariables false
set_option linter.unusedSimpArgs false
set_option linter.unusedSectionVars false
open Go.RowKit

def qpre (t : Bs) (i : Nat) : Bs := 34 :: (t.take i).flatMap quoteB
theorem qpre_succ {t : Bs} {i : Nat} {c : UInt8} (h : t[i]? = some c) : qpre t (i + 1) = qpre t i ++ quoteB c := by
  unfold qpre
  rw [List.take_add_one, h]
  simp
set_option maxRecDepth 100000 in
set_option maxHeartbeats 4000000 in
theorem quote_r (t : Bs) (w : World) (ht : t.length < 1000000) : Calls Tryz.prog 84 #[.string (str t)] w fun e w' => e = .returned (.string (str (quoteL t))) ∧ w' = w := by
  go_enter Tryz.func84, Tryz.ntmps84
  go_wp2_with fail
  go_loopg [3, 4] t.length (fun g u p wr => ∃ (i : Nat), u = .string (str (qpre t i)) ∧ p = .int .i64 (i : Int) ∧ i + g = t.length ∧ wr = w ∧ Hid ((qpre t i).length ≤ 1 + 2 * i))
  · exact ⟨0, rfl, rfl, by omega, rfl, hid (by simp [qpre])⟩
  · obtain ⟨i, rfl, rfl, hig, rfl, HL⟩ := hrel
    by_cases hit : i < t.length
    · have hi2 : (i : Int) < t.length := by omega
      have hi0 : (0 : Int) ≤ (i : Int) := by omega
      obtain ⟨c, hc⟩ : ∃ c, t[i]? = some c := ⟨_, List.getElem?_eq_getElem hit⟩
      have hix := run_at (str t) i c hc
      have hone := run_one (str t) i c hc
      have hwi : IntKind.i64.wrap ((i : Int) + 1) = (i : Int) + 1 := by rw [IntKind.wrap_i64]; omega
      have hq := qpre_succ hc
      have hlen : (qpre t i).length ≤ 1 + 2 * i := HL.out
      obtain ⟨cur, hcur⟩ : ∃ cur, cur = qpre t i := ⟨_, rfl⟩
      rw [← hcur] at hq hlen ⊢
      have hz1 : cur.length + 1 ≤ 9223372036854775807 := by omega
      have hz2 : cur.length + 2 ≤ 9223372036854775807 := by omega
      have HQ := hid hq
      have HN : Hid ((qpre t (i + 1)).length ≤ 1 + 2 * (i + 1)) := by
        show _ ≤ _
        rw [hq, List.length_append]
        have : (quoteB c).length ≤ 2 := by unfold quoteB; split; (· decide); split; (· decide); split <;> simp
        omega
      clear hq hcur HL hc hlen
      by_cases c1 : c = 34
      · subst c1
        have E1 : Hid (str cur ++ (⟨#[92, 34]⟩ : ByteArray) = str (qpre t (i + 1))) := by show _ = _; rw [HQ.out]; exact str_cat cur [92, 34]
        go_wp2_with fail
        go_roundg (gk - 1)
        case measure => omega
        case rel => exact ⟨i + 1, by rw [← E1.out], by go_num, by omega, rfl, HN⟩
      · have n1 : ¬ (c.toNat : Int) = 34 := fun h => by have := ne_u8 c1; simp [h] at this
        by_cases c2 : c = 92
        · subst c2
          have E1 : Hid (str cur ++ (⟨#[92, 92]⟩ : ByteArray) = str (qpre t (i + 1))) := by show _ = _; rw [HQ.out]; exact str_cat cur [92, 92]
          go_wp2_with fail
          go_roundg (gk - 1)
          case measure => omega
          case rel => exact ⟨i + 1, by rw [← E1.out], by go_num, by omega, rfl, HN⟩
        · have n2 : ¬ (c.toNat : Int) = 92 := fun h => by have := ne_u8 c2; simp [h] at this
          by_cases c3 : c = 10
          · subst c3
            have E1 : Hid (str cur ++ (⟨#[92, 110]⟩ : ByteArray) = str (qpre t (i + 1))) := by show _ = _; rw [HQ.out]; exact str_cat cur [92, 110]
            go_wp2_with fail
            go_roundg (gk - 1)
            case measure => omega
            case rel => exact ⟨i + 1, by rw [← E1.out], by go_num, by omega, rfl, HN⟩
          · have n3 : ¬ (c.toNat : Int) = 10 := fun h => by have := ne_u8 c3; simp [h] at this
            have E1 : Hid (str cur ++ str [c] = str (qpre t (i + 1))) := by
              show _ = _
              rw [HQ.out, str_cat]
              unfold quoteB
              rw [if_neg (by simpa using c1), if_neg (by simpa using c2), if_neg (by simpa using c3)]
            clear c1 c2 c3
            go_wp2_with fail
            go_roundg (gk - 1)
            case measure => omega
            case rel => exact ⟨i + 1, by rw [← E1.out], by go_num, by omega, rfl, HN⟩
    · have hi2 : ¬ (i : Int) < t.length := by omega
      have hlen : (qpre t i).length ≤ 1 + 2 * i := HL.out
      have hq : qpre t i ++ [34] = quoteL t := by
        unfold qpre quoteL
        rw [List.take_of_length_le (by omega)]
        rfl
      obtain ⟨cur, hcur⟩ : ∃ cur, cur = qpre t i := ⟨_, rfl⟩
      rw [← hcur] at hq hlen ⊢
      have hz1 : cur.length + 1 ≤ 9223372036854775807 := by omega
      have E1 : Hid (str cur ++ (⟨#[34]⟩ : ByteArray) = str (quoteL t)) := by show _ = _; rw [← hq]; exact str_cat cur [34]
      clear hq hcur HL
      go_wp2_with fail
      go_ret
      refine ⟨?_, rfl⟩
      show Ending.returned (.string (str cur ++ (⟨#[34]⟩ : ByteArray))) = _
      rw [E1.out]
theorem back_one (W : World) (b : Nat) (x : Int) (h0 : 0 ≤ x) (h1 : x < 256) (h : Blk W b #[.int .u8 x] 5) : (convert 41 9 (.slice (some ⟨b, 0, none⟩) 1 1)).run Tryz.prog W = .ok (.string (str [UInt8.ofNat x.toNat])) W := by
  have hx : x = ((UInt8.ofNat x.toNat).toNat : Int) := by
    rw [UInt8.toNat_ofNat']
    omega
  have := run_convert_bytes_back (P := Tryz.prog) W 41 9 5 ⟨b, 0, none⟩ 1 [UInt8.ofNat x.toNat] (by kernel_rfl) (by kernel_rfl) (by kernel_rfl) (fun j hj => by
    obtain rfl : j = 0 := by simp at hj; omega
    have c0 := h.cell 0
    rw [List.getElem?_toArray] at c0
    show W.cell? ⟨b, 0, none⟩ = some (.int .u8 ((UInt8.ofNat x.toNat).toNat : Int))
    rw [c0, ← hx]
    rfl)
  simpa using this
/-- What is found at each operation, where a digit is hung on. -/
def DV (n : Nat) (D : Bs) (j : Nat) (v : Value) (W : World) : Prop := match j with
  | 0 => v = .int .u64 (n : Int)
  | 1 => v = .int .u64 ((n / 10 : Nat) : Int)
  | 2 => v = .string (str D)
  | 3 => v = .int .u64 (n : Int)
  | 4 => v = .int .u64 ((n % 10 : Nat) : Int)
  | 5 => v = .int .u64 ((48 + n % 10 : Nat) : Int)
  | 6 => v = .int .u8 ((48 + n % 10 : Nat) : Int)
  | 7 => ∃ b, v = .slice (some ⟨b, 0, none⟩) 1 1 ∧ Blk W b #[.int .u8 ((48 + n % 10 : Nat) : Int)] 5
  | 8 => v = .string (str [UInt8.ofNat (48 + n % 10)])
  | 9 => v = .string (str (D ++ [UInt8.ofNat (48 + n % 10)]))
  | 10 => v = .string (str (D ++ [UInt8.ofNat (48 + n % 10)]))
  | _ => True
theorem DV.mod {n : Nat} {D : Bs} {j : Nat} {v : Value} {W W' : World} (hm : Mod [] W W') (h : DV n D j v W) : DV n D j v W' := by
  unfold DV at h ⊢
  split
  case h_8 => obtain ⟨b, e, hb⟩ := h; exact ⟨b, e, hm.blk hb (by simp)⟩
  all_goals first | exact h | trivial
theorem bs_one (x : Int) (W : World) : (Instr.buildSlice 41 1 #[(0, .int .u8 x)]).run Tryz.prog W = .ok (.slice (some ⟨W.heap.size, 0, none⟩) 1 1) (W.alloc (.cells #[.int .u8 x] 5)) := by kernel_rfl
theorem digitsN_lf : ∀ (f n : Nat), (digitsN f n).length ≤ f
  | 0, _ => by simp [digitsN]
  | f + 1, n => by
    unfold digitsN
    split
    · simp
    · have := digitsN_lf f (n / 10); simp; omega
set_option maxRecDepth 100000 in
set_option maxHeartbeats 4000000 in
theorem digit_r (n : Nat) (w : World) (h : n < 10) (f : Nat) : Calls Tryz.prog 83 #[.int .u64 (n : Int)] w fun e w' => e = .returned (.string (str (digitsN (f + 1) n))) ∧ Mod [] w w' := by
  have hD : digitsN (f + 1) n = [UInt8.ofNat (48 + n)] := by rw [digitsN, if_pos h]
  rw [hD]
  have z1 : (n : Int) < 10 := by omega
  have hw1 : IntKind.u64.wrap (48 + (n : Int)) = 48 + (n : Int) := by rw [IntKind.wrap_u64]; omega
  have hw2 : IntKind.u8.wrap (48 + (n : Int)) = 48 + (n : Int) := by rw [IntKind.wrap_u8]; omega
  have hcv := back_one (w.alloc (.cells #[.int .u8 (48 + (n : Int))] 5)) w.heap.size (48 + (n : Int)) (by omega) (by omega) (Blk.new _ _ _)
  rw [show (48 + (n : Int)).toNat = 48 + n by omega] at hcv
  go_enter Tryz.func83, Tryz.ntmps83
  go_wp2_with fail
  go_ret
  refine ⟨?_, (Mod.refl [] w).alloc _⟩
  show Ending.returned (.string (str [48 + UInt8.ofNat n])) = _
  simp
set_option maxRecDepth 100000 in
set_option maxHeartbeats 4000000 in
theorem digits_r0 : ∀ (f n : Nat) (w : World), f < 20 → n < 10 ^ (f + 1) → n < 18446744073709551616 → Calls Tryz.prog 83 #[.int .u64 (n : Int)] w fun e w' => e = .returned (.string (str (digitsN (f + 1) n))) ∧ Mod [] w w' := by
  intro f
  induction f with
  | zero =>
    intro n w _ hn _
    exact digit_r n w (by simpa using hn) 0
  | succ f ih =>
    intro n w hf hn hn64
    by_cases h10 : n < 10
    · exact digit_r n w h10 (f + 1)
    · have z1 : ¬ (n : Int) < 10 := by omega
      have hD : digitsN (f + 1 + 1) n = digitsN (f + 1) (n / 10) ++ [UInt8.ofNat (48 + n % 10)] := by rw [digitsN, if_neg h10]
      have hih := fun w => ih (n / 10) w (by omega) (by rw [Nat.pow_succ] at hn; omega) (by omega)
      have hdl := digitsN_lf (f + 1) (n / 10)
      rw [hD]
      obtain ⟨D, hDe⟩ : ∃ D, D = digitsN (f + 1) (n / 10) := ⟨_, rfl⟩
      rw [← hDe] at hih hdl ⊢
      have HI := hid hih
      clear hih ih hD hDe hn
      go_enter Tryz.func83, Tryz.ntmps83
      go_wp2_with fail
      rename_i K hK
      refine wp_region_steps (by rfl) (by kernel_rfl) (fun W => Mod [] w W) (DV n D) ?h0 ?steps ?fin
      case h0 => exact (Mod.refl [] w).drew
      case steps =>
        refine ⟨?s0, ?s1, ?s2, ?s3, ?s4, ?s5, ?s6, ?s7, ?s8, ?s9, ?s10, trivial⟩
        case s0 =>
          intro listed a W hR hall K hK
          have e1 : a.tmps[0]?.getD undef = _ := hR.old' 0 (by rfl)
          simp only [List.getElem?_toArray, List.getElem?_cons_zero, List.getElem?_cons_succ, Option.getD_some] at e1
          exact Oper.wp_value (.int .u64 (n : Int)) (by simp [go_sem, e1]) (hK _ _ hR.world rfl (fun _ _ _ h => h))
        case s1 =>
          intro listed a W hR hall K hK
          have e1 : a.tmps[10]?.getD undef = .int .u64 (n : Int) := hR.val 0 rfl rfl (hall ⟨0, .data⟩ (by simp) rfl)
          exact Oper.wp_value (.int .u64 ((n / 10 : Nat) : Int)) (by simp [go_sem, e1]; rw [IntKind.wrap_u64]; omega) (hK _ _ hR.world rfl (fun _ _ _ h => h))
        case s2 =>
          intro listed a W hR hall K hK
          have e1 : a.tmps[11]?.getD undef = .int .u64 ((n / 10 : Nat) : Int) := hR.val 1 rfl rfl (hall ⟨1, .data⟩ (by simp) rfl)
          refine Oper.wp_call 83 #[.int .u64 ((n / 10 : Nat) : Int)] (by simp [go_sem, e1]) (HI.out W) ?_
          rintro e W2 ⟨rfl, hm⟩
          exact hK _ _ (hR.world.tr hm) rfl (fun _ _ _ h => DV.mod hm h)
        case s3 =>
          intro listed a W hR hall K hK
          have e1 : a.tmps[0]?.getD undef = _ := hR.old' 0 (by rfl)
          simp only [List.getElem?_toArray, List.getElem?_cons_zero, List.getElem?_cons_succ, Option.getD_some] at e1
          exact Oper.wp_value (.int .u64 (n : Int)) (by simp [go_sem, e1]) (hK _ _ hR.world rfl (fun _ _ _ h => h))
        case s4 =>
          intro listed a W hR hall K hK
          have e1 : a.tmps[13]?.getD undef = .int .u64 (n : Int) := hR.val 3 rfl rfl (hall ⟨3, .data⟩ (by simp) rfl)
          exact Oper.wp_value (.int .u64 ((n % 10 : Nat) : Int)) (by simp [go_sem, e1]; exact Int.tmod_eq_emod_of_nonneg (by omega)) (hK _ _ hR.world rfl (fun _ _ _ h => h))
        case s5 =>
          intro listed a W hR hall K hK
          have e1 : a.tmps[14]?.getD undef = .int .u64 ((n % 10 : Nat) : Int) := hR.val 4 rfl rfl (hall ⟨4, .data⟩ (by simp) rfl)
          exact Oper.wp_value (.int .u64 ((48 + n % 10 : Nat) : Int)) (by simp [go_sem, e1]; rw [IntKind.wrap_u64]; omega) (hK _ _ hR.world rfl (fun _ _ _ h => h))
        case s6 =>
          intro listed a W hR hall K hK
          have e1 : a.tmps[15]?.getD undef = .int .u64 ((48 + n % 10 : Nat) : Int) := hR.val 5 rfl rfl (hall ⟨5, .data⟩ (by simp) rfl)
          exact Oper.wp_value (.int .u8 ((48 + n % 10 : Nat) : Int)) (by simp [go_sem, e1]; rw [IntKind.wrap_u8]; omega) (hK _ _ hR.world rfl (fun _ _ _ h => h))
        case s7 =>
          intro listed a W hR hall K hK
          have e1 : a.tmps[16]?.getD undef = .int .u8 ((48 + n % 10 : Nat) : Int) := hR.val 6 rfl rfl (hall ⟨6, .data⟩ (by simp) rfl)
          have hm := (Mod.refl [] W).alloc (.cells #[.int .u8 ((48 + n % 10 : Nat) : Int)] 5)
          have hb := bs_one ((48 + n % 10 : Nat) : Int) W
          refine Oper.wp_value (.slice (some ⟨W.heap.size, 0, none⟩) 1 1) (w' := W.alloc (.cells #[.int .u8 ((48 + n % 10 : Nat) : Int)] 5)) ?_ (hK _ _ (hR.world.tr hm) ⟨_, rfl, Blk.new _ _ _⟩ (fun _ _ _ h => DV.mod hm h))
          simp only [go_sem, Act.eval, Array.getD_eq_getD_getElem?, e1] at hb ⊢
          simp [go_sem, hb, e1]
        case s8 =>
          intro listed a W hR hall K hK
          obtain ⟨b, e1, hb⟩ : DV n D 7 (a.tmps[17]?.getD undef) W := hR.val 7 rfl rfl (hall ⟨7, .data⟩ (by simp) rfl)
          have hc := back_one W b ((48 + n % 10 : Nat) : Int) (by omega) (by omega) hb
          rw [Int.toNat_natCast] at hc
          exact Oper.wp_value (.string (str [UInt8.ofNat (48 + n % 10)])) (by simp [go_sem, e1, hc]) (hK _ _ hR.world rfl (fun _ _ _ h => h))
        case s9 =>
          intro listed a W hR hall K hK
          have e1 : a.tmps[12]?.getD undef = .string (str D) := hR.val 2 rfl rfl (hall ⟨2, .data⟩ (by simp) rfl)
          have e2 : a.tmps[18]?.getD undef = .string (str [UInt8.ofNat (48 + n % 10)]) := hR.val 8 rfl rfl (hall ⟨8, .data⟩ (by simp) rfl)
          exact Oper.wp_value (.string (str (D ++ [UInt8.ofNat (48 + n % 10)]))) (by rw [← str_cat]; simp [go_sem, e1, e2]; omega) (hK _ _ hR.world rfl (fun _ _ _ h => h))
        case s10 =>
          intro listed a W hR hall K hK
          have e1 : a.tmps[19]?.getD undef = .string (str (D ++ [UInt8.ofNat (48 + n % 10)])) := hR.val 9 rfl rfl (hall ⟨9, .data⟩ (by simp) rfl)
          exact Oper.wp_value (.string (str (D ++ [UInt8.ofNat (48 + n % 10)]))) (by simp [go_sem, e1]) (hK _ _ hR.world rfl (fun _ _ _ h => h))
      case fin =>
        intro listed a W hR hl
        have e1 : a.tmps[2]?.getD undef = .string (str (D ++ [UInt8.ofNat (48 + n % 10)])) := hR.val 10 rfl rfl (hl 10 (by decide))
        refine hK _ _ (wp_ret ?_)
        show bodyPost Tryz.prog Tryz.f83 _ _ _ _
        refine bodyPost_ret (v := .string (str (D ++ [UInt8.ofNat (48 + n % 10)]))) (by simp [results, Tryz.results83, go_sem, e1]) hR.defers ⟨rfl, hR.world⟩
theorem digits_r (n : Nat) (w : World) (h : n < 18446744073709551616) : Calls Tryz.prog 83 #[.int .u64 (n : Int)] w fun e w' => e = .returned (.string (str (digitsL n))) ∧ Mod [] w w' :=
  digits_r0 19 n w (by decide) (by omega) h
end
end Go.Proofs.YtibhkldnimfnkaaGreatDoor
