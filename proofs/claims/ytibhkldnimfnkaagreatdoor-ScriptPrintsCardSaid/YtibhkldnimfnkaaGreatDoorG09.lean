/- Script: parts ZW ZX ZY. -/
import Derived.Test.YtibhkldnimfnkaaGreatDoorG08

/- Script: what is quoted, plain; the replacer's cells by the byte. -/
namespace Go.Proofs.YtibhkldnimfnkaaGreatDoor
section
set_option linter.unusedVariables false
set_option linter.unusedSimpArgs false
set_option linter.unusedSectionVars false
open Go.RowKit

/-- A byte that is not quoted as it is. -/
def spec (c : UInt8) : Bool := c == 34 || c == 92 || c == 10
def bodyL (s : Bs) : Bs := s.flatMap quoteB
theorem quoteB_no {c : UInt8} (h : spec c = false) : quoteB c = [c] := by
  simp only [spec, Bool.or_eq_false_iff, beq_eq_false_iff_ne] at h
  simp [quoteB, h.1.1, h.1.2, h.2]
theorem quoteB_len (c : UInt8) : (quoteB c).length = if spec c then 2 else 1 := by
  unfold quoteB spec
  by_cases h1 : c = 34
  · subst h1; rfl
  · by_cases h2 : c = 92
    · subst h2; rfl
    · by_cases h3 : c = 10
      · subst h3; rfl
      · simp [h1, h2, h3]
theorem bodyL_append (a b : Bs) : bodyL (a ++ b) = bodyL a ++ bodyL b := List.flatMap_append
theorem bodyL_cons (c : UInt8) (s : Bs) : bodyL (c :: s) = quoteB c ++ bodyL s := rfl
theorem bodyL_len (s : Bs) : (bodyL s).length = s.length + (s.filter spec).length := by
  induction s with
  | nil => rfl
  | cons c s ih =>
    rw [bodyL_cons, List.length_append, quoteB_len, ih, List.filter_cons]
    cases spec c <;> simp <;> omega
theorem filter_count (s : Bs) : (s.filter spec).length = s.count 10 + s.count 92 + s.count 34 := by
  induction s with
  | nil => rfl
  | cons c s ih =>
    rw [List.filter_cons, List.count_cons, List.count_cons, List.count_cons]
    by_cases h1 : c = 34
    · subst h1; simp [spec, ih]; omega
    · by_cases h2 : c = 92
      · subst h2; simp [spec, ih]; omega
      · by_cases h3 : c = 10
        · subst h3; simp [spec, ih]; omega
        · simp [spec, h1, h2, h3, ih]
theorem bodyL_same {s : Bs} (h : (s.filter spec).length = 0) : bodyL s = s := by
  induction s with
  | nil => rfl
  | cons c s ih =>
    rw [List.filter_cons] at h
    cases hc : spec c
    · rw [hc] at h
      rw [bodyL_cons, quoteB_no hc, ih (by simpa using h)]
      rfl
    · rw [hc] at h
      simp at h

/-- The replacer's cell of a byte. -/
def CellOf (N : Nat) (W : World) (bs : Nat) (c : UInt8) : Prop := (spec c = false ∧ W.cell? ⟨bs, c.toNat, none⟩ = some (.slice none 0 0)) ∨
  (spec c = true ∧ ∃ q cap, W.cell? ⟨bs, c.toNat, none⟩ = some (.slice (some ⟨q, 0, none⟩) 2 cap) ∧ N ≤ q ∧ q < W.heap.size ∧ ∀ j, j < 2 → W.cell? ⟨q, j, none⟩ = some (.int .u8 (((quoteB c)[j]?.getD 0).toNat : Int)))
theorem Bsr.cellOf {N : Nat} {W : World} {bs : Nat} (h : Bsr N W bs) (c : UInt8) : CellOf N W bs c := by
  obtain ⟨Z, V, L, h1, h2, h3, h4, h5, h6, h7, h8, h9, h10⟩ := h
  have key : ∀ (o : Nat) (s : ByteArray), RepAt N W Z o s bs L → c.toNat = o → s.size = 2 → byt s = quoteB c → spec c = true → CellOf N W bs c := by
    rintro o s ⟨q, cap, q1, q2, q3, q4, q5, q6⟩ rfl hs hb hc
    refine Or.inr ⟨hc, q, cap, (h1.cell _).trans q1, q3, q6, fun j hj => ?_⟩
    rw [q2 j (by omega), hb]
  have e : ∀ k : UInt8, c.toNat = k.toNat → c = k := fun k hk => UInt8.toNat_inj.1 hk
  by_cases c1 : c = 10
  · subst c1; exact key 10 _ h8 rfl rfl rfl rfl
  · by_cases c2 : c = 92
    · subst c2; exact key 92 _ h9 rfl rfl rfl rfl
    · by_cases c3 : c = 34
      · subst c3; exact key 34 _ h10 rfl rfl rfl rfl
      · refine Or.inl ⟨by simp [spec, c1, c2, c3], (h1.cell _).trans (h7 _ c.toNat_lt (fun hk => c1 (e 10 hk)) (fun hk => c2 (e 92 hk)) (fun hk => c3 (e 34 hk)))⟩
end
end Go.Proofs.YtibhkldnimfnkaaGreatDoor

/- Script: Replace of a replacer. -/
namespace Go.Proofs.YtibhkldnimfnkaaGreatDoor
section
set_option linter.unusedVariables false
set_option linter.unusedSimpArgs false
set_option linter.unusedSectionVars false
open Go.RowKit

abbrev xsB : List UInt8 := [10, 92, 34]
def cntB (s : Bs) (i : Nat) : Nat := ((xsB.take i).map fun c => s.count c).sum
theorem cnt_succ (s : Bs) (i : Nat) (x : UInt8) (h : xsB[i]? = some x) : cntB s (i + 1) = cntB s i + s.count x := by
  unfold cntB
  rw [List.take_add_one, h]
  simp

/-- A buffer of B bytes, whose first are l. -/
def bufA (l : Bs) (B : Nat) : Array Value := (bytesV l ++ List.replicate (B - l.length) (Value.int .u8 0)).toArray
theorem bufA_size (l : Bs) (B : Nat) (h : l.length ≤ B) : (bufA l B).size = B := by simp [bufA, bytesV]; omega
theorem bufA_splice (l y : Bs) (B : Nat) (h : l.length + y.length ≤ B) : splice (bufA l B) l.length (bytesV y) = bufA (l ++ y) B := by
  unfold splice bufA
  congr 1
  have e1 : (bytesV l ++ List.replicate (B - l.length) (Value.int .u8 0)).take l.length = bytesV l := by
    rw [List.take_append_of_le_length (by simp [bytesV]), List.take_of_length_le (by simp [bytesV])]
  have e2 : (bytesV l ++ List.replicate (B - l.length) (Value.int .u8 0)).drop (l.length + (bytesV y).length) = List.replicate (B - (l ++ y).length) (.int .u8 0) := by
    rw [List.drop_append, List.drop_eq_nil_of_le (by simp [bytesV]), List.nil_append, List.drop_replicate]
    congr 1
    simp [bytesV]
    omega
  rw [e1, e2]
  simp [bytesV]
theorem bufA_set (l : Bs) (x : UInt8) (B : Nat) (h : l.length + 1 ≤ B) : (bufA l B).setIfInBounds l.length (.int .u8 (x.toNat : Int)) = bufA (l ++ [x]) B := by
  rw [← bufA_splice l [x] B h]
  apply Array.toList_inj.1
  rw [splice_toList, Array.toList_setIfInBounds]
  have hl : l.length < (bufA l B).toList.length := by have := bufA_size l B (by omega); simp only [Array.length_toList]; omega
  rw [List.set_eq_take_append_cons_drop, if_pos hl]
  simp [bytesV]

set_option maxRecDepth 100000 in
set_option maxHeartbeats 3200000 in
theorem brepl_c (N bs : Nat) (s : Bs) (w : World) (hB : Bsr N w bs) (hs : s.length < 1000000) :
    Calls Tryz.prog 233 #[.pointer (some ⟨bs, 0, none⟩), .string (str s)] w fun e w' => e = .returned (.string (str (bodyL s))) ∧ Mod [] w w' := by
  have hcell := hB.cellOf
  obtain ⟨g, p, cur, hv, hg⟩ : ∃ g p, ∃ cur : Array Value, w.cell? ⟨bs, 256, none⟩ = some (.slice (some ⟨g, 0, none⟩) 3 p) ∧ ∀ i x, xsB[i]? = some x → w.cell? ⟨g, i, none⟩ = some (.string ⟨#[x]⟩) := by
    obtain ⟨Z, V, L, h1, h2, h3, h4, h5, h6, h7, h8, h9, h10⟩ := hB
    obtain ⟨a1, p1, rfl, hv⟩ := Own.val h2
    obtain ⟨g, rfl, rfl, hc⟩ := hv.2.2 (by decide)
    refine ⟨g, p1, #[], (h1.cell _).trans h4, fun i x hx => ?_⟩
    have hi : i < 3 := (List.getElem?_eq_some_iff.1 hx).1
    rw [hc i (by omega)]
    rcases i with _ | _ | _ | i
    · cases hx; rfl
    · cases hx; rfl
    · cases hx; rfl
    · omega
  have HC := hid hcell
  have HG := hid hg
  clear hB hcell hg
  go_enter Tryz.func233, Tryz.ntmps233
  go_upto_if 26 with (fail)
  obtain ⟨d, hd⟩ : ∃ d, d = decide ((24 : Int) ≤ (s.length : Int)) := ⟨_, rfl⟩
  rw [← hd]
  clear hd
  go_cut [5, 6, 8, 9, 10, 11] from 27 to 80 (fun p5 p6 _ _ _ _ wx => p5 = .int .i64 ((s.length + (s.filter spec).length : Nat) : Int) ∧ p6 = .bool (decide (0 < (s.filter spec).length)) ∧ Hid (Mod [] w wx))
  case first =>
    cases d
    case true =>
      go_wp2_with fail
      go_loopg [5, 6, 8, 9, 32] 3 (fun g p5 p6 _ _ p32 wx => ∃ i : Nat, i + g = 3 ∧ p32 = .int .i64 (i : Int) ∧ p5 = .int .i64 ((s.length + cntB s i : Nat) : Int) ∧ p6 = .bool (decide (0 < cntB s i)) ∧ Hid (Mod [] w wx))
      case atStart => exact ⟨0, rfl, rfl, by simp [cntB], by simp [cntB], hid (Mod.refl _ _)⟩
      obtain ⟨i, hi, rfl, rfl, rfl, HWX⟩ := hrel
      by_cases hlt : i < 3
      · obtain ⟨x, hx⟩ : ∃ x, xsB[i]? = some x := ⟨_, List.getElem?_eq_getElem hlt⟩
        have hgx := HWX.out.cellSome (HG.out i x hx) (by simp)
        have hsp : spec x = true := by
          rcases i with _ | _ | _ | i
          · cases hx; rfl
          · cases hx; rfl
          · cases hx; rfl
          · omega
        obtain ⟨q, cap, hcx⟩ : ∃ q cap, wr.cell? ⟨bs, x.toNat, none⟩ = some (.slice (some ⟨q, 0, none⟩) 2 cap) := by
          rcases HC.out x with ⟨h1, _⟩ | ⟨_, q, cap, h2, _⟩
          · rw [hsp] at h1; cases h1
          · exact ⟨q, cap, HWX.out.cellSome h2 (by simp)⟩
        have hci := cnt_succ s i x hx
        have hcl : s.count x ≤ s.length := List.count_le_length
        have hcb : cntB s i ≤ 3 * s.length := by
          unfold cntB
          rcases i with _ | _ | _ | i
          · simp
          · simp; have := List.count_le_length (a := (10 : UInt8)) (l := s); omega
          · simp; have := List.count_le_length (a := (10 : UInt8)) (l := s); have := List.count_le_length (a := (92 : UInt8)) (l := s); omega
          · omega
        have HCN : Hid (Calls Tryz.prog 32 #[.string (str s), .string ⟨#[x]⟩] wr fun e w' => e = .returned (.int .i64 ((s.count x : Nat) : Int)) ∧ w' = wr) := Tryz.strings_Count_one (str s) x wr
        have hx256 : ((x.toNat : Nat) : Int) < 256 := by have := x.toNat_lt; omega
        have ix := run_at ⟨#[x]⟩ 0 x rfl
        simp only [Int.natCast_zero] at ix
        have HX := hid hx
        have HCI := hid hci
        obtain ⟨m, hm⟩ : ∃ m, m = s.count x := ⟨_, rfl⟩
        rw [← hm] at HCN HCI hcl
        have HMM := hid hm
        clear hx hsp hci hm
        go_wp2_with fail
        refine HCN.out.mono ?_
        rintro e w1 ⟨rfl, he⟩
        obtain rfl := he
        by_cases h0 : m = 0
        · have zb : (((m : Nat) : Int) != 0) = false := by rw [h0]; rfl
          go_wp2_with fail
          go_roundg (gk - 1)
          case measure => omega
          case rel =>
            refine ⟨i + 1, by omega, by go_num, ?_, ?_, HWX⟩
            · rw [HCI.out, h0]; go_num
            · rw [HCI.out, h0]; rfl
        · have zb : (((m : Nat) : Int) != 0) = true := by simp; omega
          go_wp2_with fail
          go_region
          go_wp2_with fail
          go_roundg (gk - 1)
          case measure => omega
          case rel =>
            refine ⟨i + 1, by omega, by go_num, ?_, ?_, hid HWX.out.drew⟩
            · rw [HCI.out]; go_num
            · rw [HCI.out, decide_eq_true (by omega)]
      · obtain rfl : i = 3 := by omega
        have hf : cntB s 3 = (s.filter spec).length := by rw [filter_count]; simp [cntB]; omega
        rw [hf]
        go_wp2_with fail
        go_meet
        exact ⟨rfl, rfl, HWX⟩
    case false =>
      go_wp2_with fail
      go_loopg [5, 6, 10, 11] s.length (fun g p5 p6 p10 _ wx => ∃ i : Nat, i + g = s.length ∧ p10 = .int .i64 (i : Int) ∧ p5 = .int .i64 ((s.length + ((s.take i).filter spec).length : Nat) : Int) ∧ p6 = .bool (decide (0 < ((s.take i).filter spec).length)) ∧ Hid (Mod [] w wx))
      case atStart => exact ⟨0, by omega, rfl, by simp, by simp, hid (Mod.refl _ _)⟩
      obtain ⟨i, hi, rfl, rfl, rfl, HWX⟩ := hrel
      by_cases hlt : i < s.length
      · obtain ⟨x, hx⟩ : ∃ x, s[i]? = some x := ⟨_, List.getElem?_eq_getElem hlt⟩
        have ix := run_at (str s) i x hx
        have hfi : ((s.take (i + 1)).filter spec).length = ((s.take i).filter spec).length + (if spec x then 1 else 0) := by
          rw [List.take_add_one, hx, List.filter_append, List.length_append]
          cases hsx : spec x <;> simp [hsx]
        have hfb : ((s.take i).filter spec).length ≤ i := Nat.le_trans (List.length_filter_le _ _) (by simp; omega)
        have hx256 : ((x.toNat : Nat) : Int) < 256 := by have := x.toNat_lt; omega
        obtain ⟨k, hk⟩ : ∃ k, k = ((s.take i).filter spec).length := ⟨_, rfl⟩
        rw [← hk] at hfi hfb ⊢
        have HFI := hid hfi
        clear hx hfi hk
        rcases HC.out x with ⟨hsx, hcx⟩ | ⟨hsx, q, cap, hcx, _⟩
        · have hcx2 := HWX.out.cellSome hcx (by simp)
          rw [hsx] at HFI
          clear hcx hsx
          go_wp2_with fail
          go_roundg (gk - 1)
          case measure => omega
          case rel =>
            refine ⟨i + 1, by omega, by go_num, ?_, ?_, HWX⟩
            · rw [HFI.out]; simp
            · rw [HFI.out]; rfl
        · have hcx2 := HWX.out.cellSome hcx (by simp)
          rw [hsx] at HFI
          clear hcx hsx
          go_wp2_with fail
          go_roundg (gk - 1)
          case measure => omega
          case rel =>
            refine ⟨i + 1, by omega, by go_num, ?_, ?_, HWX⟩
            · rw [HFI.out]; simp; omega
            · rw [HFI.out]; simp
      · obtain rfl : i = s.length := by omega
        rw [List.take_length]
        go_wp2_with fail
        go_meet
        exact ⟨rfl, rfl, HWX⟩
  obtain ⟨rfl, rfl, HWC⟩ := hcut
  by_cases h0 : (s.filter spec).length = 0
  · have hbs := bodyL_same h0
    rw [h0]
    go_wp2_with fail
    go_ret
    exact ⟨by rw [hbs]; rfl, HWC.out⟩
  · have hd : decide (0 < (s.filter spec).length) = true := decide_eq_true (by omega)
    rw [hd, ← bodyL_len]
    have hbl : (bodyL s).length ≤ 2 * s.length := by rw [bodyL_len]; have := List.length_filter_le spec s; omega
    obtain ⟨B, hB⟩ : ∃ B, B = (bodyL s).length := ⟨_, rfl⟩
    rw [← hB] at hbl ⊢
    have HBE := hid hB
    clear hB hd h0
    have hinf : (Tryz.prog.info? 5).map (fun i => (i.zero, i.size, i.bytes)) = some (some (.int .u8 0), 1, 1) := by kernel_rfl
    obtain ⟨i0, hi0, he0⟩ := Option.map_eq_some_iff.1 hinf
    simp only [Prod.mk.injEq] at he0
    obtain ⟨hz0, hz1, hz2⟩ := he0
    have hmk : ∀ W : World, (Instr.makeSlice 41 (.int .i64 (B : Int)) (.int .i64 (B : Int))).run Tryz.prog W = .ok (.slice (some ⟨W.heap.size, 0, none⟩) B B) (W.alloc (.cells (List.replicate B (.int .u8 0)).toArray 5)) := fun W =>
      run_make_zeros W _ _ i0 _ Tryz.underlying41 hi0 hz0 hz1 rfl _ _ _ _ (by omega) (by rw [hz2]; omega) (by omega)
    obtain ⟨bb, hbb⟩ : ∃ bb, bb = wc.heap.size := ⟨_, rfl⟩
    have hblk0 : Blk (wc.alloc (.cells (List.replicate B (.int .u8 0)).toArray 5)) bb (bufA [] B) 5 := by
      rw [hbb]
      have := Blk.new wc (List.replicate B (.int .u8 0)).toArray 5
      simpa [bufA, bytesV] using this
    have hmm0 : Mod [] w (wc.alloc (.cells (List.replicate B (.int .u8 0)).toArray 5)) := HWC.out.alloc _
    have HBB := hid hbb
    have hbbw : w.heap.size ≤ bb := by rw [hbb]; exact HWC.out.size
    go_wp2_with fail
    rw [← hbb]
    clear hbb
    go_loopg [13, 14, 15] s.length (fun g p13 p14 _ wx => ∃ (i j : Nat), i + g = s.length ∧ p14 = .int .i64 (i : Int) ∧ p13 = .int .i64 (j : Int) ∧ Hid (j = (bodyL (s.take i)).length) ∧ Hid (Blk wx bb (bufA (bodyL (s.take i)) B) 5) ∧ Hid (Mod [] w wx))
    case atStart => exact ⟨0, 0, by omega, rfl, rfl, hid rfl, hid hblk0, hid hmm0⟩
    obtain ⟨i, j, hi, rfl, rfl, HJ, HBK, HWX⟩ := hrel
    by_cases hlt : i < s.length
    · obtain ⟨x, hx⟩ : ∃ x, s[i]? = some x := ⟨_, List.getElem?_eq_getElem hlt⟩
      have ix := run_at (str s) i x hx
      have htk : bodyL (s.take (i + 1)) = bodyL (s.take i) ++ quoteB x := by
        rw [List.take_add_one, hx, bodyL_append]
        simp [bodyL]
      have hjb : j + (quoteB x).length ≤ B := by
        have h1 : bodyL s = bodyL (s.take (i + 1)) ++ bodyL (s.drop (i + 1)) := by rw [← bodyL_append, List.take_append_drop]
        rw [HBE.out, h1, htk, HJ.out]
        simp only [List.length_append]
        omega
      have hx256 : ((x.toNat : Nat) : Int) < 256 := by have := x.toNat_lt; omega
      obtain ⟨l, hl⟩ : ∃ l, l = bodyL (s.take i) := ⟨_, rfl⟩
      rw [← hl] at HJ HBK htk
      have HTK := hid htk
      clear hx hl htk
      rcases HC.out x with ⟨hsx, hcx⟩ | ⟨hsx, q, cap, hcx, hqN, hqL, hqc⟩
      · have hcx2 := HWX.out.cellSome hcx (by simp)
        rw [quoteB_no hsx] at HTK hjb
        have hj1 : j < B := Nat.lt_of_succ_le (by simpa using hjb)
        obtain ⟨u0, hu0⟩ : ∃ u, (bufA l B)[j]? = some u := ⟨_, Array.getElem?_eq_getElem (by rw [bufA_size l B (by rw [← HJ.out]; omega)]; exact hj1)⟩
        have cj := (HBK.out.cell j).trans hu0
        have zj := HBK.out.free j
        have hbk2 := HBK.out.set j (.int .u8 (x.toNat : Int))
        rw [HJ.out, bufA_set l x B (by rw [← HJ.out]; omega), ← HJ.out, ← HTK.out] at hbk2
        have HBK2 := hid hbk2
        clear hcx hsx hu0 hbk2 hjb
        go_wp2_with fail
        go_roundg (gk - 1)
        case measure => omega
        case rel =>
          refine ⟨i + 1, j + 1, by omega, by go_num, by go_num, ?_, HBK2, ?_⟩
          · show _ = _
            rw [HTK.out, List.length_append, ← HJ.out]
            rfl
          · exact hid (HWX.out.setCell (p := ⟨bb, j, none⟩) (Or.inr hbbw) _)
      · have hcx2 := HWX.out.cellSome hcx (by simp)
        have hql : (quoteB x).length = 2 := by rw [quoteB_len, hsx]; rfl
        rw [hql] at hjb
        have hsrc : Src Tryz.prog wr.drew (.slice (some ⟨q, 0, none⟩) 2 cap) 1 2 (bytesV (quoteB x)) := Src.slice (fun j hj => by
          have hj2 : j < 2 := by simp [bytesV, hql] at hj; exact hj
          have := HWX.out.drew.cellSome (hqc j hj2) (by simp)
          rw [Nat.zero_add, this]
          simp only [bytesV, List.getElem?_map]
          rw [List.getElem?_eq_getElem (by omega)]
          simp) (by simp [bytesV, hql])
        have HSRC := hid hsrc
        have HONE := hid (bytesV_one (quoteB x))
        have HBKD := hid (HBK.out.drew)
        have hlj : l.length = j := HJ.out.symm
        have hfit : j + 2 * 1 ≤ (bufA l B).size := by rw [bufA_size l B (by omega)]; omega
        have u8sz : (Tryz.prog.info? 5).map (·.size) = some 1 := by kernel_rfl
        have U8 := hid u8sz
        have HLJ := hid hlj
        have hmin : 2 = Nat.min (B - j) 2 := (Nat.min_eq_right (by omega : 2 ≤ B - j)).symm
        have hjB : j ≤ B := by omega
        have hjB0 : (0 : Int) ≤ (j : Int) := by omega
        have hjB1 : (j : Int) ≤ (B : Int) := by omega
        have HMIN := hid hmin
        have HQL := hid hql
        clear hcx hsx hsrc hqc hqL hqN hlj u8sz hmin hql
        go_wp2_with fail
        go_region_law (refine step_copy_at rfl (.tmp 105) (.tmp 111) 41 41 rfl 5 1 Tryz.underlying41 U8.out (B - j) (B - j) 2 _ (by simp [Act.eval, Act.put]) (bytesV (quoteB x)) HSRC.out bb j (bufA l B) 5 (by simp [Act.eval, Act.put]; omega) HBKD.out 2 HMIN.out hfit (fun v hv => HONE.out v (List.mem_of_mem_take hv)) ?_; intro w3 hc3 hm3)
        have hbk3 : Blk w3 bb (bufA (bodyL (s.take (i + 1))) B) 5 := by
          have := hc3.out
          rw [List.take_of_length_le (by rw [bytesV_len, quoteB_len]; split <;> omega), ← HLJ.out, bufA_splice l (quoteB x) B (by rw [HLJ.out, quoteB_len]; split <;> omega), ← HTK.out] at this
          exact this
        have HB3 := hid hbk3
        clear hbk3
        go_wp2_with fail
        go_roundg (gk - 1)
        case measure => omega
        case rel =>
          refine ⟨i + 1, j + 2, by omega, by go_num, by go_num, ?_, HB3, ?_⟩
          · show _ = _
            rw [HTK.out, List.length_append, HLJ.out, HQL.out]
          · exact hid (HWX.out.drew.trans hm3.out (m := []) (fun x hx _ => hx) (fun y hy hlt => by simp at hy; subst hy; omega))
    · obtain rfl : i = s.length := by omega
      rw [List.take_length] at HJ HBK
      have hcv : (convert 41 9 (.slice (some ⟨bb, 0, none⟩) B B)).run Tryz.prog wr = .ok (.string (str (bodyL s))) wr := by
        have h := run_convert_bytes_back (P := Tryz.prog) wr 41 9 5 ⟨bb, 0, none⟩ B (bodyL s) (by kernel_rfl) (by kernel_rfl) (by kernel_rfl) (fun j hj => by
          rw [Lib.add_plain, Nat.zero_add, HBK.out.cell]
          unfold bufA
          rw [List.getElem?_toArray, List.getElem?_append_left (by simpa [bytesV] using hj)]
          simp only [bytesV, List.getElem?_map, List.getElem?_eq_getElem hj, Option.map_some])
        rw [← HBE.out] at h
        exact h
      go_wp2_with fail
      go_ret
      exact ⟨rfl, HWX.out⟩
end
end Go.Proofs.YtibhkldnimfnkaaGreatDoor

/- Script: quote. -/
namespace Go.Proofs.YtibhkldnimfnkaaGreatDoor
section
set_option linter.unusedVariables false
set_option linter.unusedSimpArgs false
set_option linter.unusedSectionVars false
open Go.RowKit

set_option maxRecDepth 100000 in
set_option maxHeartbeats 3200000 in
theorem replace_c (R g cap : Nat) (s : Bs) (w : World) (hB : Blk w R #[.int .u32 0, .int .i32 0, .int .u32 0, .nilIface, .slice (some ⟨g, 0, none⟩) 6 cap] rpT) (h6 : Six w g) (hgR : g ≠ R) (hs : s.length < 1000000) :
    Calls Tryz.prog 122 #[.pointer (some ⟨R, 0, none⟩), .string (str s)] w fun e w' => e = .returned (.string (str (bodyL s))) ∧ Mod [R] w w' := by
  have hmf : ∀ (fn : Fn) (first cap : Array Value) (w : World), (Instr.makeFunc fn first cap).run Tryz.prog w = .ok (.func fn first cap) w := fun _ _ _ _ => rfl
  have HD := hid (do_c R (.int .u32 0) .nilIface (.slice (some ⟨g, 0, none⟩) 6 cap) w (fun x W => ∃ bs, x = .iface 248 (.pointer (some ⟨bs, 0, none⟩)) ∧ Bsr w.heap.size W bs) hB
    (by rintro x W W' ⟨bs, rfl, hb⟩ hm; exact ⟨bs, rfl, hb.keep hm (by have := hB.lt; simpa using this)⟩)
    (fun W hm hBW => (buildOnce_c R g cap _ _ _ _ W hBW (h6.mod hm (by simpa using hgR))).mono (by
      rintro e W' ⟨rfl, h1, bs, h2, h3⟩
      exact ⟨rfl, h1, _, h2, bs, rfl, h3.mono hm.size⟩)))
  clear hB h6
  go_enter Tryz.func122, Tryz.ntmps122
  go_wp2_with fail
  refine HD.out.mono ?_
  rintro e w1 ⟨rfl, hm, x, hb, bs, rfl, hs1⟩
  have c3 := hb.cell 3
  simp only [List.getElem?_toArray, List.getElem?_cons_zero, List.getElem?_cons_succ] at c3
  have HM := hid hm
  have HS := hid (brepl_c _ bs s w1 hs1 hs)
  clear hm hb hs1
  go_wp2_with fail
  refine HS.out.mono ?_
  rintro e w2 ⟨rfl, hm2⟩
  have HM2 := hid (HM.out.trans hm2 (m := [R]) (fun x hx _ => hx) (fun x hx _ => by cases hx))
  clear hm2
  go_wp2_with fail
  go_ret
  exact ⟨rfl, HM2.out⟩

set_option maxRecDepth 100000 in
set_option maxHeartbeats 3200000 in
theorem quote_c (s : Bs) (w : World) (hs : s.length < 1000000) : Calls Tryz.prog 107 #[.string (str s)] w fun e w' => e = .returned (.string (str (quoteL s))) ∧ Mod [] w w' := by
  have HN := hid (newReplacer_c w.heap.size (w.alloc (.cells sixC.toArray 9)) (Blk.new w _ _))
  have hb := bodyL_len s
  have hbl : (bodyL s).length ≤ 2 * s.length := by rw [hb]; have := List.length_filter_le spec s; omega
  have zc1 : ¬ 9223372036854775807 < 1 + (bodyL s).length := by omega
  have zc2 : ¬ 9223372036854775807 < 1 + (bodyL s).length + 1 := by omega
  clear hb hbl
  go_enter Tryz.func107, Tryz.ntmps107
  go_wp2_with fail
  refine HN.out.mono ?_
  rintro e w1 ⟨R, g, cap, rfl, hm, hR, hg, h6, hB⟩
  have HR := hid (replace_c R g cap s w1 hB h6 hg hs)
  have HM := hid (((Mod.refl [] w).alloc (.cells sixC.toArray 9)).tr hm)
  have HRR := hid hR
  clear hm hg h6 hB hR
  go_wp2_with fail
  refine HR.out.mono ?_
  rintro e w2 ⟨rfl, hm⟩
  have HM2 := hid (HM.out.trans hm (m := []) (fun x hx _ => hx) (fun x hx hlt => by
    have := HRR.out
    simp at hx this
    subst hx
    omega))
  clear hm
  go_wp2_with fail
  go_ret
  refine ⟨?_, HM2.out⟩
  show Ending.returned (.string ((⟨#[34]⟩ ++ str (bodyL s)) ++ ⟨#[34]⟩)) = _
  congr 2
end
end Go.Proofs.YtibhkldnimfnkaaGreatDoor
