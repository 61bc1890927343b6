/- Script: parts ZM ZN ZO ZP ZQ ZR. -/
import Derived.Test.YtibhkldnimfnkaaGreatDoorG05
import Derived.Lib.ItoaMem
import Derived.Laws.LoneSync
import Derived.RegionCalls
import Derived.Laws.NewBlocks
import Derived.LoopN
import Derived.Lib.JoinLaws
import Derived.Deep.WholeRow

/- Script: the readers of places. -/
namespace Go.Proofs.YtibhkldnimfnkaaGreatDoor
section
set_option linter.unusedVariables false
set_option linter.unusedSimpArgs false
set_option linter.unusedSectionVars false
open Go.RowKit

/-- What comes of reading in a place: the step with one cell anew, or it is given up. -/
def ReadG (b : Nat) (w : World) (o : Option (List Value)) (e : Ending) (w' : World) : Prop :=
  Mod [b] w w' ∧ match o with | none => e = .panicked (pan 4) | some c' => e = .returned (.tuple #[]) ∧ Blk w' b c'.toArray 46

theorem set_self {α : Type} (l : List α) (i : Nat) (h : i < l.length) : l.set i l[i] = l := by simp

set_option maxRecDepth 100000 in
set_option maxHeartbeats 1000000 in
theorem count1_c (k lo hi : Nat) (o : Nat) (ho : o < 8) (hk : Gets k 0 o) (x : Wd) (s : List Value) (b bl bh bf : Nat) (w : World) (hs8 : s.length = 8) (hx : x.text.length < 4294967000) (hhi : hi < 10000)
    (hb : Blk w b s.toArray 46) (hl : Blk w bl #[.int .u64 (lo : Int)] 42) (hh : Blk w bh #[.int .u64 (hi : Int)] 42) (hf : Blk w bf #[.func (.func k) #[] #[]] 135)
    (hbl : bl ≠ b) (hbh : bh ≠ b) (hbf : bf ≠ b) :
    Calls Tryz.prog 100 #[wdV x, .pointer (some ⟨b, 0, none⟩), .pointer (some ⟨bl, 0, none⟩), .pointer (some ⟨bh, 0, none⟩), .pointer (some ⟨bf, 0, none⟩)] w
      (ReadG b w ((numL x lo hi).map fun (n : Nat) => s.set o (.int .i64 (n : Int)))) := by
  have henter := hk.1
  have HG := hid hk.2
  have HNC := hid (fun W => number_c x lo hi W hx)
  obtain ⟨w1, hw1⟩ : ∃ w1, w1 = w.alloc (.cells #[.string (str x.text), .bool x.quoted] 87) := ⟨_, rfl⟩
  have hm1 : Mod [] w w1 := by rw [hw1]; exact (Mod.refl [] w).alloc _
  have hbx : Blk w1 w.heap.size #[.string (str x.text), .bool x.quoted] 87 := by rw [hw1]; exact Blk.new _ _ _
  have hbn : w.heap.size ≠ b := by have := hb.lt; omega
  have HM1 := hid hm1
  have HB := hid (hm1.blk hb (by simp))
  have HL := hid (hm1.blk hl (by simp))
  have HH := hid (hm1.blk hh (by simp))
  have HF := hid (hm1.blk hf (by simp))
  have HX := hid hbx
  have HW1 := hid hw1
  have HN := hid (fun n (h : numL x lo hi = some n) => (show n ≤ hi by
    unfold numL at h
    split at h
    · rename_i h2; simp at h2 h; omega
    · cases h))
  clear hb hl hh hf hk hm1 hbx hw1
  go_enter Tryz.func100, Tryz.ntmps100
  go_wp2_with fail
  rw [← HW1.out]
  refine wp_region_steps (by rfl) (by kernel_rfl)
    (fun W => Mod [b] w1 W ∧ ∃ u, Blk W b (s.set o u).toArray 46)
    (fun i v W => match i with
      | 0 => v = .func (.func k) #[] #[]
      | 1 => v = .pointer (some ⟨b, 0, none⟩)
      | 2 => v = .pointer (some ⟨b, o, none⟩)
      | 3 => v = wdV x
      | 4 => v = .int .u64 (lo : Int)
      | 5 => v = .int .u64 (hi : Int)
      | 6 => ∃ m : Nat, numL x lo hi = some m ∧ v = .int .u64 (m : Int)
      | 7 => ∃ m : Nat, numL x lo hi = some m ∧ v = .int .i64 (m : Int)
      | 8 => v = .pointer (some ⟨b, o, none⟩)
      | 9 => ∃ m : Nat, numL x lo hi = some m ∧ Blk W b (s.set o (.int .i64 (m : Int))).toArray 46
      | _ => True) ?h0 ?steps ?fin
  case h0 =>
    exact ⟨(Mod.refl [b] w1).drew, s[o]'(by omega), by rw [set_self]; exact HB.out.drew⟩
  case steps =>
    refine ⟨?s0, ?s1, ?s2, ?s3, ?s4, ?s5, ?s6, ?s7, ?s8, ?s9, trivial⟩
    case s0 =>
      intro listed a W hR hall K hK
      have e4 : a.tmps[4]?.getD undef = _ := hR.old' 4 (by rfl)
      have c0 := (hR.world.1.blk HF.out (by simpa using hbf)).cell 0
      simp only [List.getElem?_toArray, List.getElem?_cons_zero, List.getElem?_cons_succ, Option.getD_some] at e4 c0
      exact Oper.wp_value (.func (.func k) #[] #[]) (by simp [go_sem, e4, c0]) (hK _ _ hR.world rfl (fun _ _ _ h => h))
    case s1 =>
      intro listed a W hR hall K hK
      have e1 : a.tmps[1]?.getD undef = _ := hR.old' 1 (by rfl)
      simp only [List.getElem?_toArray, List.getElem?_cons_zero, List.getElem?_cons_succ, Option.getD_some] at e1
      exact Oper.wp_value (.pointer (some ⟨b, 0, none⟩)) (by simp [go_sem, e1]) (hK _ _ hR.world rfl (fun _ _ _ h => h))
    case s2 =>
      intro listed a W hR hall K hK
      have e7 : a.tmps[7]?.getD undef = .func (.func k) #[] #[] := hR.val 0 rfl rfl (hall ⟨0, .data⟩ (by simp) rfl)
      have e8 : a.tmps[8]?.getD undef = .pointer (some ⟨b, 0, none⟩) := hR.val 1 rfl rfl (hall ⟨1, .data⟩ (by simp) rfl)
      refine Oper.wp_call k #[.pointer (some ⟨b, 0, none⟩)] (by simp [go_sem, e7, e8, henter]) (HG.out b W) ?_
      rintro e W' ⟨rfl, rfl⟩
      exact hK _ _ hR.world rfl (fun _ _ _ h => h)
    case s3 =>
      intro listed a W hR hall K hK
      have e5 : a.tmps[5]?.getD undef = _ := hR.old' 5 (by rfl)
      have c0 := (hR.world.1.blk HX.out (by simpa using hbn)).cell 0
      have c1 := (hR.world.1.blk HX.out (by simpa using hbn)).cell 1
      simp only [List.getElem?_toArray, List.getElem?_cons_zero, List.getElem?_cons_succ, Option.getD_some] at e5 c0 c1
      exact Oper.wp_value (wdV x) (by simp [go_sem, e5, c0, c1]) (hK _ _ hR.world rfl (fun _ _ _ h => h))
    case s4 =>
      intro listed a W hR hall K hK
      have e4 : a.tmps[2]?.getD undef = _ := hR.old' 2 (by rfl)
      have c0 := (hR.world.1.blk HL.out (by simpa using hbl)).cell 0
      simp only [List.getElem?_toArray, List.getElem?_cons_zero, List.getElem?_cons_succ, Option.getD_some] at e4 c0
      exact Oper.wp_value (.int .u64 (lo : Int)) (by simp [go_sem, e4, c0]) (hK _ _ hR.world rfl (fun _ _ _ h => h))
    case s5 =>
      intro listed a W hR hall K hK
      have e4 : a.tmps[3]?.getD undef = _ := hR.old' 3 (by rfl)
      have c0 := (hR.world.1.blk HH.out (by simpa using hbh)).cell 0
      simp only [List.getElem?_toArray, List.getElem?_cons_zero, List.getElem?_cons_succ, Option.getD_some] at e4 c0
      exact Oper.wp_value (.int .u64 (hi : Int)) (by simp [go_sem, e4, c0]) (hK _ _ hR.world rfl (fun _ _ _ h => h))
    case s6 =>
      intro listed a W hR hall K hK
      have e10 : a.tmps[10]?.getD undef = wdV x := hR.val 3 rfl rfl (hall ⟨3, .data⟩ (by simp) rfl)
      have e11 : a.tmps[11]?.getD undef = .int .u64 (lo : Int) := hR.val 4 rfl rfl (hall ⟨4, .data⟩ (by simp) rfl)
      have e12 : a.tmps[12]?.getD undef = .int .u64 (hi : Int) := hR.val 5 rfl rfl (hall ⟨5, .data⟩ (by simp) rfl)
      have hdz : a.defers = [] := hR.defers
      refine Oper.wp_call 101 #[wdV x, .int .u64 (lo : Int), .int .u64 (hi : Int)] (by simp [go_sem, e10, e11, e12]) (HNC.out W) ?_
      rintro e W' ⟨hm, he⟩
      obtain ⟨h1, u, h2⟩ := hR.world
      cases hn : numL x lo hi with
      | none =>
        rw [hn] at he
        obtain rfl := he
        refine ⟨hdz, ?_, ?_⟩
        · exact (HM1.out.trans (h1.trans hm (m := [b]) (fun _ h _ => h) (fun _ h _ => by cases h)) (fun _ h _ => by cases h) (fun _ h _ => h))
        · rw [hn]; rfl
      | some m =>
        rw [hn] at he
        obtain rfl := he
        exact hK _ _ ⟨h1.trans hm (fun _ h _ => h) (fun _ h _ => by cases h), u, hm.blk h2 (by simp)⟩ ⟨m, hn, rfl⟩ (fun j v _ h => match j, h with
          | 0, h | 1, h | 2, h | 3, h | 4, h | 5, h | 6, h | 7, h | 8, h => h
          | 9, ⟨m, h1, h2⟩ => ⟨m, h1, hm.blk h2 (by simp)⟩
          | _ + 10, h => h)
    case s7 =>
      intro listed a W hR hall K hK
      obtain ⟨m, hn, e13⟩ : ∃ m : Nat, numL x lo hi = some m ∧ a.tmps[13]?.getD undef = .int .u64 (m : Int) := hR.val 6 rfl rfl (hall ⟨6, .data⟩ (by simp) rfl)
      have hm1 : m ≤ hi := HN.out m hn
      have hm : (m : Int) < 10000 := by omega
      have hm0 : (0 : Int) ≤ (m : Int) := by omega
      have hw : IntKind.i64.wrap (m : Int) = (m : Int) := IntWalk.i64_in (m : Int) (by omega)
      exact Oper.wp_value (.int .i64 (m : Int)) (by simp [go_sem, e13, hw]) (hK _ _ hR.world ⟨m, hn, rfl⟩ (fun _ _ _ h => h))
    case s8 =>
      intro listed a W hR hall K hK
      have e9 : a.tmps[9]?.getD undef = .pointer (some ⟨b, o, none⟩) := hR.val 2 rfl rfl (hall ⟨2, .data⟩ (by simp) rfl)
      exact Oper.wp_value (.pointer (some ⟨b, o, none⟩)) (by simp [go_sem, e9]) (hK _ _ hR.world rfl (fun _ _ _ h => h))
    case s9 =>
      intro listed a W hR hall K hK
      have e15 : a.tmps[15]?.getD undef = .pointer (some ⟨b, o, none⟩) := hR.val 8 rfl rfl (hall ⟨8, .data⟩ (by simp) rfl)
      obtain ⟨m, hn, e14⟩ : ∃ m : Nat, numL x lo hi = some m ∧ a.tmps[14]?.getD undef = .int .i64 (m : Int) := hR.val 7 rfl rfl (hall ⟨7, .data⟩ (by simp) rfl)
      obtain ⟨h1, u, h2⟩ := hR.world
      have c0 := h2.cell o
      have z0 := h2.free o
      rw [show ((s.set o u).toArray)[o]? = some u by rw [List.getElem?_toArray, List.getElem?_set_self (by rw [hs8]; exact ho)]] at c0
      have h3 : Blk (W.setCell ⟨b, o, none⟩ (.int .i64 (m : Int))) b (s.set o (.int .i64 (m : Int))).toArray 46 := by
        have := h2.set o (.int .i64 (m : Int))
        simpa using this
      refine Oper.wp_skip (w' := W.setCell ⟨b, o, none⟩ (.int .i64 (m : Int))) (by simp [go_sem, e15, e14, c0, z0]) (hK undef _ ⟨h1.setCell (Or.inl (by simp)) _, _, h3⟩ ⟨m, hn, h3⟩ (fun j v hj h => match j, hj, h with
          | 0, _, h | 1, _, h | 2, _, h | 3, _, h | 4, _, h | 5, _, h | 6, _, h | 7, _, h | 8, _, h => h
          | 9, hj, _ => absurd rfl hj
          | _ + 10, _, h => h))
  case fin =>
    intro listed a W hR hl
    obtain ⟨m, hn, h3⟩ : ∃ m : Nat, numL x lo hi = some m ∧ Blk W b (s.set o (.int .i64 (m : Int))).toArray 46 := hR.got 9 _ rfl (hl 9 (by decide))
    have hd : a.defers = [] := hR.defers
    have hmw := HM1.out.trans hR.world.1 (m := [b]) (fun _ h _ => by cases h) (fun _ h _ => h)
    refine bodyPost_end (results_none rfl _ _ _) hd ⟨hmw, ?_⟩
    rw [hn]
    exact ⟨rfl, h3⟩
end
end Go.Proofs.YtibhkldnimfnkaaGreatDoor

/- Script: the readers of places, two. -/
namespace Go.Proofs.YtibhkldnimfnkaaGreatDoor
section
set_option linter.unusedVariables false
set_option linter.unusedSimpArgs false
set_option linter.unusedSectionVars false
open Go.RowKit

set_option maxRecDepth 100000 in
set_option maxHeartbeats 1000000 in
theorem text1_c (k lo hi : Nat) (o : Nat) (ho : o < 8) (hk : Gets k 3 o) (x : Wd) (s : List Value) (b bl bh bf : Nat) (w : World) (hs8 : s.length = 8) (hx : x.text.length < 4294967000)
    (hb : Blk w b s.toArray 46) (hl : Blk w bl #[.int .i64 (lo : Int)] 3) (hh : Blk w bh #[.int .i64 (hi : Int)] 3) (hf : Blk w bf #[.func (.func k) #[] #[]] 139)
    (hbl : bl ≠ b) (hbh : bh ≠ b) (hbf : bf ≠ b) :
    Calls Tryz.prog 104 #[wdV x, .pointer (some ⟨b, 0, none⟩), .pointer (some ⟨bl, 0, none⟩), .pointer (some ⟨bh, 0, none⟩), .pointer (some ⟨bf, 0, none⟩)] w
      (ReadG b w ((saidL x lo hi).map fun (n : Bs) => s.set o (.string (str n)))) := by
  have henter := hk.1
  have HG := hid hk.2
  have HNC := hid (fun W => said_c x lo hi W hx)
  obtain ⟨w1, hw1⟩ : ∃ w1, w1 = w.alloc (.cells #[.string (str x.text), .bool x.quoted] 87) := ⟨_, rfl⟩
  have hm1 : Mod [] w w1 := by rw [hw1]; exact (Mod.refl [] w).alloc _
  have hbx : Blk w1 w.heap.size #[.string (str x.text), .bool x.quoted] 87 := by rw [hw1]; exact Blk.new _ _ _
  have hbn : w.heap.size ≠ b := by have := hb.lt; omega
  have HM1 := hid hm1
  have HB := hid (hm1.blk hb (by simp))
  have HL := hid (hm1.blk hl (by simp))
  have HH := hid (hm1.blk hh (by simp))
  have HF := hid (hm1.blk hf (by simp))
  have HX := hid hbx
  have HW1 := hid hw1
  clear hb hl hh hf hk hm1 hbx hw1
  go_enter Tryz.func104, Tryz.ntmps104
  go_wp2_with fail
  rw [← HW1.out]
  refine wp_region_steps (by rfl) (by kernel_rfl)
    (fun W => Mod [b] w1 W ∧ ∃ u, Blk W b (s.set o u).toArray 46)
    (fun i v W => match i with
      | 0 => v = .func (.func k) #[] #[]
      | 1 => v = .pointer (some ⟨b, 0, none⟩)
      | 2 => v = .pointer (some ⟨b, 0, none⟩)
      | 3 => v = .pointer (some ⟨b, 3, none⟩)
      | 4 => v = .pointer (some ⟨b, o, none⟩)
      | 5 => v = wdV x
      | 6 => v = .int .i64 (lo : Int)
      | 7 => v = .int .i64 (hi : Int)
      | 8 => ∃ m : Bs, saidL x lo hi = some m ∧ v = .string (str m)
      | 9 => v = .pointer (some ⟨b, o, none⟩)
      | 10 => ∃ m : Bs, saidL x lo hi = some m ∧ Blk W b (s.set o (.string (str m))).toArray 46
      | _ => True) ?h0 ?steps ?fin
  case h0 =>
    exact ⟨(Mod.refl [b] w1).drew, s[o]'(by omega), by rw [set_self]; exact HB.out.drew⟩
  case steps =>
    refine ⟨?s0, ?s1, ?s2, ?s3, ?s4, ?s5, ?s6, ?s7, ?s8, ?s9, ?s10, trivial⟩
    case s0 =>
      intro listed a W hR hall K hK
      have e4 : a.tmps[4]?.getD undef = _ := hR.old' 4 (by rfl)
      have c0 := (hR.world.1.blk HF.out (by simpa using hbf)).cell 0
      simp only [List.getElem?_toArray, List.getElem?_cons_zero, List.getElem?_cons_succ, Option.getD_some] at e4 c0
      exact Oper.wp_value (.func (.func k) #[] #[]) (by simp [go_sem, e4, c0]) (hK _ _ hR.world rfl (fun _ _ _ h => h))
    case s1 =>
      intro listed a W hR hall K hK
      have e1 : a.tmps[1]?.getD undef = _ := hR.old' 1 (by rfl)
      simp only [List.getElem?_toArray, List.getElem?_cons_zero, List.getElem?_cons_succ, Option.getD_some] at e1
      exact Oper.wp_value (.pointer (some ⟨b, 0, none⟩)) (by simp [go_sem, e1]) (hK _ _ hR.world rfl (fun _ _ _ h => h))
    case s2 =>
      intro listed a W hR hall K hK
      have e8 : a.tmps[8]?.getD undef = .pointer (some ⟨b, 0, none⟩) := hR.val 1 rfl rfl (hall ⟨1, .data⟩ (by simp) rfl)
      exact Oper.wp_value (.pointer (some ⟨b, 0, none⟩)) (by simp [go_sem, e8]) (hK _ _ hR.world rfl (fun _ _ _ h => h))
    case s3 =>
      intro listed a W hR hall K hK
      have e9 : a.tmps[9]?.getD undef = .pointer (some ⟨b, 0, none⟩) := hR.val 2 rfl rfl (hall ⟨2, .data⟩ (by simp) rfl)
      exact Oper.wp_value (.pointer (some ⟨b, 3, none⟩)) (by simp [go_sem, e9]) (hK _ _ hR.world rfl (fun _ _ _ h => h))
    case s4 =>
      intro listed a W hR hall K hK
      have e7 : a.tmps[7]?.getD undef = .func (.func k) #[] #[] := hR.val 0 rfl rfl (hall ⟨0, .data⟩ (by simp) rfl)
      have e10 : a.tmps[10]?.getD undef = .pointer (some ⟨b, 3, none⟩) := hR.val 3 rfl rfl (hall ⟨3, .data⟩ (by simp) rfl)
      refine Oper.wp_call k #[.pointer (some ⟨b, 3, none⟩)] (by simp [go_sem, e7, e10, henter]) (HG.out b W) ?_
      rintro e W' ⟨rfl, rfl⟩
      exact hK _ _ hR.world rfl (fun _ _ _ h => h)
    case s5 =>
      intro listed a W hR hall K hK
      have e5 : a.tmps[5]?.getD undef = _ := hR.old' 5 (by rfl)
      have c0 := (hR.world.1.blk HX.out (by simpa using hbn)).cell 0
      have c1 := (hR.world.1.blk HX.out (by simpa using hbn)).cell 1
      simp only [List.getElem?_toArray, List.getElem?_cons_zero, List.getElem?_cons_succ, Option.getD_some] at e5 c0 c1
      exact Oper.wp_value (wdV x) (by simp [go_sem, e5, c0, c1]) (hK _ _ hR.world rfl (fun _ _ _ h => h))
    case s6 =>
      intro listed a W hR hall K hK
      have e4 : a.tmps[2]?.getD undef = _ := hR.old' 2 (by rfl)
      have c0 := (hR.world.1.blk HL.out (by simpa using hbl)).cell 0
      simp only [List.getElem?_toArray, List.getElem?_cons_zero, List.getElem?_cons_succ, Option.getD_some] at e4 c0
      exact Oper.wp_value (.int .i64 (lo : Int)) (by simp [go_sem, e4, c0]) (hK _ _ hR.world rfl (fun _ _ _ h => h))
    case s7 =>
      intro listed a W hR hall K hK
      have e4 : a.tmps[3]?.getD undef = _ := hR.old' 3 (by rfl)
      have c0 := (hR.world.1.blk HH.out (by simpa using hbh)).cell 0
      simp only [List.getElem?_toArray, List.getElem?_cons_zero, List.getElem?_cons_succ, Option.getD_some] at e4 c0
      exact Oper.wp_value (.int .i64 (hi : Int)) (by simp [go_sem, e4, c0]) (hK _ _ hR.world rfl (fun _ _ _ h => h))
    case s8 =>
      intro listed a W hR hall K hK
      have e10 : a.tmps[12]?.getD undef = wdV x := hR.val 5 rfl rfl (hall ⟨5, .data⟩ (by simp) rfl)
      have e11 : a.tmps[13]?.getD undef = .int .i64 (lo : Int) := hR.val 6 rfl rfl (hall ⟨6, .data⟩ (by simp) rfl)
      have e12 : a.tmps[14]?.getD undef = .int .i64 (hi : Int) := hR.val 7 rfl rfl (hall ⟨7, .data⟩ (by simp) rfl)
      have hdz : a.defers = [] := hR.defers
      refine Oper.wp_call 105 #[wdV x, .int .i64 (lo : Int), .int .i64 (hi : Int)] (by simp [go_sem, e10, e11, e12]) (HNC.out W) ?_
      rintro e W' ⟨hm, he⟩
      obtain ⟨h1, u, h2⟩ := hR.world
      cases hn : saidL x lo hi with
      | none =>
        rw [hn] at he
        obtain rfl := he
        refine ⟨hdz, ?_, ?_⟩
        · exact (HM1.out.trans (h1.trans hm (m := [b]) (fun _ h _ => h) (fun _ h _ => by cases h)) (fun _ h _ => by cases h) (fun _ h _ => h))
        · rw [hn]; rfl
      | some m =>
        rw [hn] at he
        obtain rfl := he
        exact hK _ _ ⟨h1.trans hm (fun _ h _ => h) (fun _ h _ => by cases h), u, hm.blk h2 (by simp)⟩ ⟨m, hn, rfl⟩ (fun j v _ h => match j, h with
          | 0, h | 1, h | 2, h | 3, h | 4, h | 5, h | 6, h | 7, h | 8, h | 9, h => h
          | 10, ⟨m, h1, h2⟩ => ⟨m, h1, hm.blk h2 (by simp)⟩
          | _ + 11, h => h)
    case s9 =>
      intro listed a W hR hall K hK
      have e9 : a.tmps[11]?.getD undef = .pointer (some ⟨b, o, none⟩) := hR.val 4 rfl rfl (hall ⟨4, .data⟩ (by simp) rfl)
      exact Oper.wp_value (.pointer (some ⟨b, o, none⟩)) (by simp [go_sem, e9]) (hK _ _ hR.world rfl (fun _ _ _ h => h))
    case s10 =>
      intro listed a W hR hall K hK
      have e15 : a.tmps[16]?.getD undef = .pointer (some ⟨b, o, none⟩) := hR.val 9 rfl rfl (hall ⟨9, .data⟩ (by simp) rfl)
      obtain ⟨m, hn, e14⟩ : ∃ m : Bs, saidL x lo hi = some m ∧ a.tmps[15]?.getD undef = .string (str m) := hR.val 8 rfl rfl (hall ⟨8, .data⟩ (by simp) rfl)
      obtain ⟨h1, u, h2⟩ := hR.world
      have c0 := h2.cell o
      have z0 := h2.free o
      rw [show ((s.set o u).toArray)[o]? = some u by rw [List.getElem?_toArray, List.getElem?_set_self (by rw [hs8]; exact ho)]] at c0
      have h3 : Blk (W.setCell ⟨b, o, none⟩ (.string (str m))) b (s.set o (.string (str m))).toArray 46 := by
        have := h2.set o (.string (str m))
        simpa using this
      refine Oper.wp_skip (w' := W.setCell ⟨b, o, none⟩ (.string (str m))) (by simp [go_sem, e15, e14, c0, z0]) (hK undef _ ⟨h1.setCell (Or.inl (by simp)) _, _, h3⟩ ⟨m, hn, h3⟩ (fun j v hj h => match j, hj, h with
          | 0, _, h | 1, _, h | 2, _, h | 3, _, h | 4, _, h | 5, _, h | 6, _, h | 7, _, h | 8, _, h | 9, _, h => h
          | 10, hj, _ => absurd rfl hj
          | _ + 11, _, h => h))
  case fin =>
    intro listed a W hR hl
    obtain ⟨m, hn, h3⟩ : ∃ m : Bs, saidL x lo hi = some m ∧ Blk W b (s.set o (.string (str m))).toArray 46 := hR.got 10 _ rfl (hl 10 (by decide))
    have hd : a.defers = [] := hR.defers
    have hmw := HM1.out.trans hR.world.1 (m := [b]) (fun _ h _ => by cases h) (fun _ h _ => h)
    refine bodyPost_end (results_none rfl _ _ _) hd ⟨hmw, ?_⟩
    rw [hn]
    exact ⟨rfl, h3⟩

set_option maxRecDepth 100000 in
set_option maxHeartbeats 1000000 in
theorem stamp1_c (x : Wd) (s0 s1 s2 s3 s4 s5 s6 s7 : Value) (b : Nat) (w : World) (hx : x.text.length < 4294967000)
    (hb : Blk w b #[s0, s1, s2, s3, s4, s5, s6, s7] 46) :
    Calls Tryz.prog 111 #[wdV x, .pointer (some ⟨b, 0, none⟩)] w
      (ReadG b w ((numL x 1 1099511627776).map fun (n : Nat) => [s0, s1, s2, s3, .int .u64 (n : Int), s5, s6, s7])) := by
  have HNC := hid (fun W => number_c x 1 1099511627776 W hx)
  have HB := hid hb
  have hbl := hb.lt
  have HM := hid ((Mod.refl [b] w).alloc (.cells #[.string (str x.text), .bool x.quoted] 87))
  have HB1 := hid (hb.alloc (.cells #[.string (str x.text), .bool x.quoted] 87))
  obtain ⟨n, hn⟩ : ∃ n, n = numL x 1 1099511627776 := ⟨_, rfl⟩
  rw [← hn] at HNC ⊢
  clear hb hn
  go_enter Tryz.func111, Tryz.ntmps111
  go_wp2_with fail
  refine (HNC.out _).mono ?_
  rintro e w1 ⟨hm, he⟩
  cases n with
  | none =>
    obtain rfl := he
    exact ⟨rfl, HM.out.trans hm (fun _ h _ => h) (fun _ h _ => by cases h), rfl⟩
  | some m =>
    obtain rfl := he
    have HB2 := hid (hm.blk HB1.out (by simp))
    have HM2 := hid (HM.out.trans hm (m := [b]) (fun _ h _ => h) (fun _ h _ => by cases h))
    have c4 := HB2.out.cell 4
    have z4 := HB2.out.free 4
    have l4 := HB2.out.lt
    simp only [List.getElem?_toArray, List.getElem?_cons_zero, List.getElem?_cons_succ] at c4
    clear hm
    go_wp2_with fail
    go_end0
    exact ⟨HM2.out.setCell (Or.inl (by simp)) _, rfl, HB2.out.set 4 _⟩
end
end Go.Proofs.YtibhkldnimfnkaaGreatDoor

/- Script: who is read. -/
namespace Go.Proofs.YtibhkldnimfnkaaGreatDoor
section
set_option linter.unusedVariables false
set_option linter.unusedSimpArgs false
set_option linter.unusedSectionVars false
open Go.RowKit

/-- Who a word says. -/
def whoO (x : Wd) : Option Int := if !x.quoted && x.text == tcB then some 0 else if !x.quoted && x.text == dcB then some 1 else none
abbrev nmV : Value := .string ⟨#[116, 99]⟩
abbrev nmV' : Value := .string ⟨#[100, 99]⟩
def ixW (t : Bs) : Int := if t == tcB then 0 else if t == dcB then 1 else -1

theorem idx_who (t : Bs) : Lib.idxOfS [⟨#[116, 99]⟩, ⟨#[100, 99]⟩] (str t) = ixW t := by
  have e1 : ((⟨#[116, 99]⟩ : ByteArray) = str t) ↔ t = tcB := ⟨fun h => by have := congrArg (fun b => b.data.toList) h; simpa [tcB, eq_comm] using this, fun h => by rw [h]; rfl⟩
  have e2 : ((⟨#[100, 99]⟩ : ByteArray) = str t) ↔ t = dcB := ⟨fun h => by have := congrArg (fun b => b.data.toList) h; simpa [dcB, eq_comm] using this, fun h => by rw [h]; rfl⟩
  unfold ixW Lib.idxOfS Lib.idxFromS Lib.idxFromS Lib.idxFromS
  simp only [e1, e2, beq_iff_eq]
  rfl

set_option maxRecDepth 100000 in
set_option maxHeartbeats 1000000 in
theorem who1_c (x : Wd) (s0 s1 s2 s3 s4 s5 s6 s7 : Value) (b bn nb : Nat) (w : World) (hbn : bn ≠ b) (hnb : nb ≠ b)
    (hb : Blk w b #[s0, s1, s2, s3, s4, s5, s6, s7] 46) (hn : Blk w bn #[.slice (some ⟨nb, 0, none⟩) 2 2] 49) (hnn : Blk w nb #[nmV, nmV'] 9) :
    Calls Tryz.prog 108 #[wdV x, .pointer (some ⟨b, 0, none⟩), .pointer (some ⟨bn, 0, none⟩)] w
      (ReadG b w ((whoO x).map fun (n : Int) => [s0, .int .i64 n, s2, s3, s4, s5, s6, s7])) := by
  obtain ⟨w1, hw1⟩ : ∃ w1, w1 = w.alloc (.cells #[.string (str x.text), .bool x.quoted] 87) := ⟨_, rfl⟩
  have hm1 : Mod [] w w1 := by rw [hw1]; exact (Mod.refl [] w).alloc _
  have hbx : Blk w1 w.heap.size #[.string (str x.text), .bool x.quoted] 87 := by rw [hw1]; exact Blk.new _ _ _
  have hbl := hb.lt
  have hb1 := hm1.blk hb (by simp)
  have hn1 := hm1.blk hn (by simp)
  have hnn1 := hm1.blk hnn (by simp)
  have HI := hid (Tryz.slices_Index_string nb 0 2 2 [⟨#[116, 99]⟩, ⟨#[100, 99]⟩] (str x.text) w1 (by decide) (by decide) (fun j hj => by
    have := hnn1.cell j
    match j, hj with
    | 0, _ => rw [Nat.zero_add, this]; rfl
    | 1, _ => rw [this]; rfl))
  rw [show ([⟨#[116, 99]⟩, ⟨#[100, 99]⟩] : List ByteArray).take 2 = [⟨#[116, 99]⟩, ⟨#[100, 99]⟩] from rfl, idx_who] at HI
  have n0w := hn.cell 0
  have nlw := hn.lt
  have HB := hid hb1
  have HM1 := hid hm1
  have HW1 := hid hw1
  have n0 := hn1.cell 0
  have x0 := hbx.cell 0
  have x1 := hbx.cell 1
  have xl := hbx.lt
  have nl := hn1.lt
  have c1 := hb1.cell 1
  have z1 := hb1.free 1
  have l1 := hb1.lt
  simp only [List.getElem?_toArray, List.getElem?_cons_zero, List.getElem?_cons_succ] at n0 n0w x0 x1 c1
  clear hb hn hnn hb1 hn1 hnn1 hbx hm1 hw1
  go_enter Tryz.func108, Tryz.ntmps108
  go_wp2_with fail
  rw [← HW1.out]
  refine HI.out.mono ?_
  rintro e w2 ⟨rfl, rfl⟩
  have HM2 := hid (HM1.out.trans ((Mod.refl [b] w2).setCell (p := ⟨b, 1, none⟩) (Or.inl (by simp)) (.int .i64 (ixW x.text))) (m := [b]) (fun _ h _ => by cases h) (fun _ h _ => h))
  have HB2 := hid (HB.out.set 1 (.int .i64 (ixW x.text)))
  obtain ⟨i, hi⟩ : ∃ i, i = ixW x.text := ⟨_, rfl⟩
  rw [← hi] at HM2 HB2 ⊢
  have HO : Hid (whoO x = if !x.quoted && decide (0 ≤ i) then some i else none) := by
    show _ = _
    rw [hi]
    unfold whoO ixW
    cases x.quoted <;> by_cases h1 : x.text = tcB <;> by_cases h2 : x.text = dcB <;> simp [h1, h2, show ¬ (dcB = tcB) from by decide]
  have hne : w.heap.size ≠ b := by omega
  have hir : -1 ≤ i ∧ i ≤ 1 := by rw [hi]; unfold ixW; split <;> (try split) <;> omega
  obtain ⟨hi1, hi2⟩ := hir
  obtain ⟨t, q⟩ := x
  simp only at HM2 HB2 HO x0 x1 HI hi ⊢
  clear hi HI HM1 HB HW1 n0 n0w x0
  cases q
  · by_cases h0 : 0 ≤ i
    · have HN : Hid (whoO ⟨t, false⟩ = some i) := by show _ = _; rw [HO.out]; simp [h0]
      clear HO
      go_wp2_with fail
      refine (must_yes _).mono ?_
      rintro e w' ⟨rfl, rfl⟩
      go_wp2_with fail
      go_end0
      refine ⟨HM2.out, ?_⟩
      rw [HN.out]
      exact ⟨rfl, HB2.out⟩
    · have HN : Hid (whoO ⟨t, false⟩ = none) := by show _ = _; rw [HO.out]; simp [h0]
      clear HO
      go_wp2_with fail
      refine (must_no _).mono ?_
      rintro e w' ⟨rfl, rfl⟩
      refine ⟨rfl, HM2.out, ?_⟩
      rw [HN.out]
      rfl
  · have HN : Hid (whoO ⟨t, true⟩ = none) := by show _ = _; rw [HO.out]; simp
    clear HO
    go_wp2_with fail
    refine (must_no _).mono ?_
    rintro e w' ⟨rfl, rfl⟩
    refine ⟨rfl, HM2.out, ?_⟩
    rw [HN.out]
    rfl
end
end Go.Proofs.YtibhkldnimfnkaaGreatDoor

/- Script: numbers, printed. -/
namespace Go.Proofs.YtibhkldnimfnkaaGreatDoor
section
set_option linter.unusedVariables false
set_option linter.unusedSimpArgs false
set_option linter.unusedSectionVars false
open Go.RowKit Go.Sort

/-- What the printing of numbers asks of the world. -/
abbrev Tab (w : World) : Prop := Lib.TabIs Tryz.prog w "internal/strconv.uint64pow10" .u64 Lib.pow10Tab

theorem mod_grow (w : World) (k : Nat) (os : Array Obj) : Mod [] w (Sort.grow (w.drewN k) os) :=
  ⟨rfl, rfl, rfl, by simp [Sort.grow, World.drewN], fun i hi _ => by simp [Sort.grow, World.drewN, Array.getElem?_append, hi]⟩

theorem holds_zero0 (w : World) (T : TypeId) (nd : Nat) (hs : nd ≤ 24) : Holds (fun (b : UInt8) => Value.int .u8 (b.toNat : Int)) (w.alloc (.cells Lib.zeros24 T)) w.heap.size 0 (Array.replicate nd (0 : UInt8)) := fun j hj => by
  have hj' : j < nd := by simpa using hj
  refine ⟨?_, World.frozen?_alloc_new _ _ _ _⟩
  rw [World.cell?_alloc_new, Lib.zeros24_at _ (by omega), getElem!_pos _ j hj]
  simp
theorem mod_row (w : World) (o : Obj) (dk : Array UInt8) (k : Nat) : Mod [] w ((Sort.putRow (fun (b : UInt8) => Value.int .u8 (b.toNat : Int)) (w.alloc o) w.heap.size 0 dk).drewN k) := by
  rw [Sort.alloc_eq_grow]
  obtain ⟨os', _, e⟩ := Sort.putRow_grow_new (fun (b : UInt8) => Value.int .u8 (b.toNat : Int)) w #[o] w.heap.size 0 dk (Nat.le_refl _)
  rw [e]
  exact mod_grow w k os'

theorem itoa_c (n : Int) (h0 : -9223372036854775808 ≤ n) (h1 : n ≤ 9223372036854775807) (w : World) (ht : Tab w) :
    Calls Tryz.prog 103 #[.int .i64 n] w fun e w' => e = .returned (.string (str (Lib.itoa n))) ∧ Mod [] w w' := by
  refine (Tryz.strconv_Itoa n h0 h1 w ht).mono ?_
  rintro e w' ⟨rfl, k, os, rfl⟩
  exact ⟨rfl, mod_grow w k os⟩

set_option maxRecDepth 100000 in
set_option maxHeartbeats 2000000 in
theorem formatU_c (u : Nat) (hu64 : u < 18446744073709551616) (w : World) (ht : Tab w) :
    Calls Tryz.prog 123 #[.int .u64 (u : Int), .int .i64 10] w fun e w' => e = .returned (.string (str (Lib.decDigits u))) ∧ Mod [] w w' := by
  by_cases hs : u < 100
  · have z1 : (u : Int) < 100 := by omega
    have hw : IntKind.i64.wrap (u : Int) = (u : Int) := IntWalk.i64_in _ (by omega)
    have HC := hid (Tryz.internal_strconv_small u hs w)
    go_enter Tryz.func123, Tryz.ntmps123
    go_wp2_with fail
    refine HC.out.mono ?_
    rintro e w' ⟨rfl, rfl⟩
    go_wp2_with fail
    go_ret
    exact ⟨rfl, Mod.refl _ _⟩
  · have hu1 : 1 ≤ u := by omega
    have z1 : ¬ (u : Int) < 100 := by omega
    have hnd20 : Lib.nDigits u ≤ 20 := by have := Lib.numDigits_eq u hu1 hu64; split at this <;> omega
    have hsl : ∀ W, (Instr.sliceAt 217 (.pointer (some ⟨w.heap.size, 0, none⟩)) none (some (.int .i64 (Lib.nDigits u : Int))) none).run Tryz.prog W = .ok (.slice (some ⟨w.heap.size, 0, none⟩) (Lib.nDigits u) 24) W := fun W => by
      have hal : Tryz.prog.arrayLen 217 = 24 := by kernel_rfl
      rw [run_sliceAt_array_h W 217 ⟨w.heap.size, 0, none⟩ (by kernel_rfl) .i64 (Lib.nDigits u : Int) (by omega) (by rw [hal]; omega)]
      go_simp
    have hH0 := holds_zero0 w 217 (Lib.nDigits u) (by omega)
    have hfmt := Tryz.internal_strconv_formatBase10 w.heap.size 0 24 u (Array.replicate (Lib.nDigits u) 0) (w.alloc (.cells Lib.zeros24 217)) hH0 (by rw [Array.size_replicate]; exact Lib.lt_pow_nDigits u) hu64 (by rw [Array.size_replicate]; omega)
    rw [Array.size_replicate] at hfmt
    have HH0 := hid hH0
    have HF := hid hfmt
    have HT := hid ht
    have hb3 : Lib.nDigits u ≤ 24 := by omega
    clear hH0 hfmt ht
    go_enter Tryz.func123, Tryz.ntmps123
    go_wp2_with fail
    refine (Tryz.internal_strconv_numDigits u hu1 hu64 _ (Lib.tabIs_alloc HT.out _)).mono ?_
    rintro e w' ⟨rfl, rfl⟩
    go_wp2_with fail
    refine HF.out.mono ?_
    rintro e w' ⟨rfl, k, v', dk, rfl, hF⟩
    have hcv : (convert 41 9 (.slice (some ⟨w.heap.size, 0, none⟩) (Lib.nDigits u) 24)).run Tryz.prog ((putRow (fun (b : UInt8) => Value.int .u8 (b.toNat : Int)) (w.alloc (.cells Lib.zeros24 217)) w.heap.size 0 dk).drewN k) = .ok (.string ⟨(Lib.decDigits u).toArray⟩) ((putRow (fun (b : UInt8) => Value.int .u8 (b.toNat : Int)) (w.alloc (.cells Lib.zeros24 217)) w.heap.size 0 dk).drewN k) := by
      have h := run_convert_bytes_back (P := Tryz.prog) ((putRow (fun (b : UInt8) => Value.int .u8 (b.toNat : Int)) (w.alloc (.cells Lib.zeros24 217)) w.heap.size 0 dk).drewN k) 41 9 5 ⟨w.heap.size, 0, none⟩ 24 (Lib.decDigits u) (by kernel_rfl) (by kernel_rfl) (by kernel_rfl) (fun j hj => by
        rw [Lib.row_is_numeral hF j hj, Lib.add_plain, World.cell?_drewN]
        exact cell?_putRow (fun (b : UInt8) => Value.int .u8 (b.toNat : Int)) _ w.heap.size 0 _ dk HH0.out (by rw [hF.size, Array.size_replicate]) j (by rw [hF.size]; rw [Lib.decDigits_length] at hj; exact hj))
      rw [Lib.decDigits_length] at h
      exact h
    have HM := hid (mod_row w (.cells Lib.zeros24 217) dk k)
    have HFF := hid hF
    clear hF
    go_wp2_with fail
    go_ret
    exact ⟨rfl, HM.out⟩

set_option maxRecDepth 100000 in
theorem formatUint_c (u : Nat) (hu64 : u < 18446744073709551616) (w : World) (ht : Tab w) :
    Calls Tryz.prog 113 #[.int .u64 (u : Int), .int .i64 10] w fun e w' => e = .returned (.string (str (Lib.decDigits u))) ∧ Mod [] w w' := by
  have HC := hid (formatU_c u hu64 w ht)
  clear ht
  go_enter Tryz.func113, Tryz.ntmps113
  go_wp2_with fail
  refine HC.out.mono ?_
  rintro e w' ⟨rfl, hm⟩
  go_wp2_with fail
  go_ret
  exact ⟨rfl, hm⟩
end
end Go.Proofs.YtibhkldnimfnkaaGreatDoor

/- Script: sync.Once, not yet done (one goroutine; after the kit's Lazy). -/
namespace Go.Proofs.YtibhkldnimfnkaaGreatDoor
section
set_option linter.unusedVariables false
set_option linter.unusedSimpArgs false
set_option linter.unusedSectionVars false
open Go.RowKit

theorem s_disable (w : World) : (callFunc 168 #[]).run Tryz.prog w = .ok (.value (.tuple #[])) w := run_call_mark0 Tryz.func168 (by kernel_rfl) (by kernel_rfl) (by kernel_rfl) .disable (by kernel_rfl) w
theorem s_enable (w : World) : (callFunc 170 #[]).run Tryz.prog w = .ok (.value (.tuple #[])) w := run_call_mark0 Tryz.func170 (by kernel_rfl) (by kernel_rfl) (by kernel_rfl) .enable (by kernel_rfl) w
theorem s_acquire (a : Addr) (w : World) : (callFunc 171 #[.pointer (some a)]).run Tryz.prog w = .ok (.value (.tuple #[])) w := run_call_marked Tryz.func171 (by kernel_rfl) (by kernel_rfl) (by kernel_rfl) .acquire (by kernel_rfl) a w
theorem s_release (a : Addr) (w : World) : (callFunc 173 #[.pointer (some a)]).run Tryz.prog w = .ok (.value (.tuple #[])) w := run_call_marked Tryz.func173 (by kernel_rfl) (by kernel_rfl) (by kernel_rfl) .releaseMerge (by kernel_rfl) a w

set_option maxRecDepth 100000 in
set_option maxHeartbeats 1600000 in
theorem store_d (a : Addr) (x : Value) (u : FrameMode) (w : World) (hc : w.cell? a = some x) (hz : w.frozen? a = false) :
    CallsD Tryz.prog 157 #[.pointer (some a), .bool true] u w fun e u' w' => u' = u ∧ (e = .returned (.tuple #[]) ∧ w' = w.drew.setCell a (.int .u32 1)) := by
  have hc' : w.drew.cell? a = some x := by go_simp
  have hz' : w.drew.frozen? a = false := by go_simp
  have hst := run_call_store (P := Tryz.prog) Tryz.func164 (by kernel_rfl) (by kernel_rfl) (by kernel_rfl) (by kernel_rfl) (k := .u32) (y := 1) hc' hz'
  go_enter_d Tryz.func157, Tryz.ntmps157
  go_wp2
  go_region_calls
  all_goals (go_end0; exact ⟨rfl, rfl⟩)

set_option maxRecDepth 100000 in
set_option maxHeartbeats 1600000 in
theorem unlock_d (a : Addr) (u : FrameMode) (w : World) (hc : w.cell? a = some (.int .i32 1)) (hz : w.frozen? a = false) :
    CallsD Tryz.prog 156 #[.pointer (some a)] u w fun e u' w' => u' = u ∧ (e = .returned (.tuple #[]) ∧ w' = w.setCell a (.int .i32 0)) := by
  have hd := s_disable
  have he := s_enable
  have hr := s_release
  have hadd := run_call_add (P := Tryz.prog) Tryz.func174 (by kernel_rfl) (by kernel_rfl) (by kernel_rfl) .i32 (by kernel_rfl) (y := -1) (s := 0) hc hz (by simp [go_sem]; rfl)
  have hcv := run_convert_to_unsafe (P := Tryz.prog) (t := 207) (src := 269) (dst := 111) (by kernel_rfl) (by kernel_rfl) (by kernel_rfl) hc
  go_enter_d Tryz.func156, Tryz.ntmps156
  go_wp2
  go_end0
  go_wp2

set_option maxRecDepth 100000 in
set_option maxHeartbeats 1600000 in
theorem lock_c (a : Addr) (w : World) (hc : w.cell? a = some (.int .i32 0)) (hz : w.frozen? a = false) :
    Calls Tryz.prog 155 #[.pointer (some a)] w fun e w' => e = .returned (.tuple #[]) ∧ w' = w.setCell a (.int .i32 1) := by
  have hd := s_disable
  have he := s_enable
  have ha := s_acquire
  have hcas := run_call_cas_hit (P := Tryz.prog) Tryz.func169 (by kernel_rfl) (by kernel_rfl) (by kernel_rfl) .i32 (by kernel_rfl) (y := 1) hc hz
  have hc' : (w.setCell a (.int .i32 1)).cell? a = some (.int .i32 1) := World.cell?_setCell_same w a _ hc
  have hcv := run_convert_to_unsafe (P := Tryz.prog) (t := 207) (src := 269) (dst := 111) (by kernel_rfl) (by kernel_rfl) (by kernel_rfl) hc'
  go_enter Tryz.func155, Tryz.ntmps155
  go_wp2
  first | go_end0 | (simp only [Exit.inBlock, Exit.then]; refine bodyPost_ret (results_none rfl _ _ _) rfl ?_) | refine bodyPost_ret (results_none rfl _ _ _) rfl ?_
  go_wp2

set_option maxRecDepth 100000 in
theorem load_c (a : Addr) (x : Int) (b : Bool) (hb : (x != 0) = b) (w : World) (hc : w.cell? a = some (.int .u32 x)) : Calls Tryz.prog 143 #[.pointer (some a)] w fun e w' => e = .returned (.bool b) ∧ w = w' := by
  have hl := run_call_load (P := Tryz.prog) Tryz.func154 (by kernel_rfl) (by kernel_rfl) (by kernel_rfl) .u32 (by kernel_rfl) hc
  go_enter Tryz.func143, Tryz.ntmps143
  go_wp2
  go_ret
  exact ⟨rfl, rfl⟩

abbrev rpT : TypeId := 215
set_option maxRecDepth 100000 in
set_option maxHeartbeats 3200000 in
theorem slow_c (R : Nat) (s2 v3 v4 : Value) (w : World) (B : Value → World → Prop) (hB : Blk w R #[.int .u32 0, .int .i32 0, s2, v3, v4] rpT)
    (hkeep : ∀ x W W', B x W → Mod [R] W W' → B x W')
    (hf : ∀ W, Mod [R] w W → Blk W R #[.int .u32 0, .int .i32 1, s2, v3, v4] rpT → Calls Tryz.prog 131 #[.pointer (some ⟨R, 0, none⟩)] W fun e W' => e = .returned (.tuple #[]) ∧ Mod [R] W W' ∧ ∃ x, Blk W' R #[.int .u32 0, .int .i32 1, s2, x, .slice none 0 0] rpT ∧ B x W') :
    Calls Tryz.prog 144 #[.pointer (some ⟨R, 0, none⟩), .func (.func 131) #[.pointer (some ⟨R, 0, none⟩)] #[]] w fun e w' => e = .returned (.tuple #[]) ∧ Mod [R] w w' ∧ ∃ x, Blk w' R #[.int .u32 1, .int .i32 0, s2, x, .slice none 0 0] rpT ∧ B x w' := by
  have c1 := hB.cell 1
  have z1 := hB.free 1
  simp only [List.getElem?_toArray, List.getElem?_cons_zero, List.getElem?_cons_succ] at c1
  have hB1 : Blk (w.setCell ⟨R, 1, none⟩ (.int .i32 1)) R #[.int .u32 0, .int .i32 1, s2, v3, v4] rpT := hB.set 1 (.int .i32 1)
  have hm1 : Mod [R] w (w.setCell ⟨R, 1, none⟩ (.int .i32 1)) := (Mod.refl [R] w).setCell (Or.inl (by simp)) _
  have c0' := hB1.cell 0
  simp only [List.getElem?_toArray, List.getElem?_cons_zero, List.getElem?_cons_succ] at c0'
  have HLD := hid (load_c ⟨R, 0, none⟩ 0 false rfl _ c0')
  have hnot : ∀ (x : Bool) (w : World), (Op.unary .not (.bool x)).run Tryz.prog w = .ok (.bool (!x)) w := fun _ _ => rfl
  have HL := hid (lock_c ⟨R, 1, none⟩ w c1 z1)
  have HF := hid (hf _ hm1 hB1)
  have HM1 := hid hm1
  have HK := hid hkeep
  clear hB hB1 hm1 hf c1 z1 hkeep
  go_enter_defers Tryz.func144, Tryz.ntmps144
  go_wp2_with (go_at_call 155; refine HL.out.mono ?_; rintro e w' ⟨rfl, rfl⟩)
  refine HLD.out.mono ?_
  rintro e w' ⟨rfl, rfl⟩
  go_wp2_with fail
  refine HF.out.mono ?_
  rintro e w2 ⟨rfl, hm2, x, hB2, hx⟩
  have HM2 := hid (HM1.out.tr hm2)
  have HB2 := hid hB2
  have HX := hid hx
  clear hm2 hB2 hx
  go_wp2_with fail
  have b0 := HB2.out.cell 0
  have f0 := HB2.out.free 0
  simp only [List.getElem?_toArray, List.getElem?_cons_zero, List.getElem?_cons_succ] at b0
  refine leaves_cons (f := 157) (args := #[.pointer (some ⟨R, 0, none⟩), .bool true]) (by simp) (by simp [go_sem]) ?_
  refine (store_d ⟨R, 0, none⟩ (.int .u32 0) .returning _ b0 f0).mono ?_
  rintro e u' w3 ⟨rfl, rfl, rfl⟩
  have hB3 : Blk (w2.drew.setCell ⟨R, 0, none⟩ (.int .u32 1)) R #[.int .u32 1, .int .i32 1, s2, x, .slice none 0 0] rpT := (HB2.out.drew).set 0 (.int .u32 1)
  have hm3 : Mod [R] w2 (w2.drew.setCell ⟨R, 0, none⟩ (.int .u32 1)) := ((Mod.refl [R] w2).drew).setCell (Or.inl (by simp)) _
  have b1 := hB3.cell 1
  have f1 := hB3.free 1
  simp only [List.getElem?_toArray, List.getElem?_cons_zero, List.getElem?_cons_succ] at b1
  refine leaves_cons (f := 156) (args := #[.pointer (some ⟨R, 1, none⟩)]) (by simp [settle]) (by simp [go_sem]) ?_
  refine (unlock_d ⟨R, 1, none⟩ _ _ b1 f1).mono ?_
  rintro e u' w4 ⟨rfl, rfl, rfl⟩
  have hm4 := hm3.setCell (p := ⟨R, 1, none⟩) (Or.inl (by simp)) (.int .i32 0)
  have hend : Ending.returned (.tuple #[]) = Ending.returned (.tuple #[]) ∧ Mod [R] w ((w2.drew.setCell ⟨R, 0, none⟩ (.int .u32 1)).setCell ⟨R, 1, none⟩ (.int .i32 0)) ∧ ∃ x, Blk ((w2.drew.setCell ⟨R, 0, none⟩ (.int .u32 1)).setCell ⟨R, 1, none⟩ (.int .i32 0)) R #[.int .u32 1, .int .i32 0, s2, x, .slice none 0 0] rpT ∧ B x ((w2.drew.setCell ⟨R, 0, none⟩ (.int .u32 1)).setCell ⟨R, 1, none⟩ (.int .i32 0)) :=
    ⟨rfl, HM2.out.tr hm4, x, hB3.set 1 (.int .i32 0), HK.out _ _ _ HX.out hm4⟩
  have HE := hid hend
  clear hend hm4 hm3 hB3
  simp only [Leaves, settle]
  exact ⟨.tuple #[], results_none rfl _ _ _, HE.out⟩

set_option maxRecDepth 100000 in
set_option maxHeartbeats 3200000 in
theorem do_c (R : Nat) (s2 v3 v4 : Value) (w : World) (B : Value → World → Prop) (hB : Blk w R #[.int .u32 0, .int .i32 0, s2, v3, v4] rpT)
    (hkeep : ∀ x W W', B x W → Mod [R] W W' → B x W')
    (hf : ∀ W, Mod [R] w W → Blk W R #[.int .u32 0, .int .i32 1, s2, v3, v4] rpT → Calls Tryz.prog 131 #[.pointer (some ⟨R, 0, none⟩)] W fun e W' => e = .returned (.tuple #[]) ∧ Mod [R] W W' ∧ ∃ x, Blk W' R #[.int .u32 0, .int .i32 1, s2, x, .slice none 0 0] rpT ∧ B x W') :
    Calls Tryz.prog 130 #[.pointer (some ⟨R, 0, none⟩), .func (.func 131) #[.pointer (some ⟨R, 0, none⟩)] #[]] w fun e w' => e = .returned (.tuple #[]) ∧ Mod [R] w w' ∧ ∃ x, Blk w' R #[.int .u32 1, .int .i32 0, s2, x, .slice none 0 0] rpT ∧ B x w' := by
  have c0 := hB.cell 0
  simp only [List.getElem?_toArray, List.getElem?_cons_zero, List.getElem?_cons_succ] at c0
  have HLD := hid (load_c ⟨R, 0, none⟩ 0 false rfl _ c0)
  have HS := hid (slow_c R s2 v3 v4 w B hB hkeep hf)
  have hnot : ∀ (x : Bool) (w : World), (Op.unary .not (.bool x)).run Tryz.prog w = .ok (.bool (!x)) w := fun _ _ => rfl
  clear hB hkeep hf c0
  go_enter Tryz.func130, Tryz.ntmps130
  go_wp2_with fail
  refine HLD.out.mono ?_
  rintro e w' ⟨rfl, rfl⟩
  go_wp2_with fail
  refine HS.out.mono ?_
  rintro e w2 ⟨rfl, h⟩
  have H := hid h
  clear h
  go_wp2_with fail
  go_end0
  exact ⟨rfl, H.out⟩
end
end Go.Proofs.YtibhkldnimfnkaaGreatDoor

/- Script: the replacer is built. -/
namespace Go.Proofs.YtibhkldnimfnkaaGreatDoor
section
set_option linter.unusedVariables false
set_option linter.unusedSimpArgs false
set_option linter.unusedSectionVars false
open Go.RowKit

abbrev qq : Value := .string ⟨#[34]⟩
abbrev qb : Value := .string ⟨#[92]⟩
abbrev qn : Value := .string ⟨#[10]⟩
abbrev qqV : Value := .string ⟨#[92, 34]⟩
abbrev qbV : Value := .string ⟨#[92, 92]⟩
abbrev qnV : Value := .string ⟨#[92, 110]⟩

theorem one_byte (c : UInt8) (W : World) : (convert 41 9 (.slice (some ⟨W.heap.size, 0, none⟩) 1 1)).run Tryz.prog (W.alloc (.cells #[.int .u8 (c.toNat : Int)] 5)) = .ok (.string ⟨#[c]⟩) (W.alloc (.cells #[.int .u8 (c.toNat : Int)] 5)) := by
  have h := run_convert_bytes_back (P := Tryz.prog) (W.alloc (.cells #[.int .u8 (c.toNat : Int)] 5)) 41 9 5 ⟨W.heap.size, 0, none⟩ 1 [c] (by kernel_rfl) (by kernel_rfl) (by kernel_rfl) (fun j hj => by
    have hj0 : j = 0 := by simpa using hj
    subst hj0
    simp [Addr.add])
  exact h
theorem two_bytes (s : ByteArray) (W : World) : (convert 9 41 (.string s)).run Tryz.prog W = .ok (.slice (some ⟨W.heap.size, 0, none⟩) s.size (grownCap W s.size 0 5)) (Lib.bytesWorld W 5 s) :=
  Lib.run_convert_string_bytes W 9 41 5 s Tryz.underlying9 Tryz.underlying41 (by kernel_rfl)

theorem cell_freeze (w : World) (a : Addr) (n : Nat) (p : Addr) : (w.freeze a n).cell? p = w.cell? p := by
  unfold World.freeze
  split
  · rfl
  · unfold World.cell?
    simp only [Array.getElem?_modify]
    by_cases h : a.block = p.block
    · rw [if_pos h]
      cases hh : w.heap[p.block]? with
      | none => rfl
      | some ob => cases ob <;> rfl
    · rw [if_neg h]
/-- What a text's bytes are, in a block. -/
def BytesAt (W : World) (q : Nat) (s : ByteArray) : Prop := ∀ j, j < s.size → W.cell? ⟨q, j, none⟩ = some (.int .u8 (((byt s)[j]?.getD 0).toNat : Int))
/-- A replacer that is being built: its cells Z; the list v of what it replaces. -/
structure Rp (w : World) (bs : Nat) (W : World) (Z : Array Value) (v : Value) (k : Nat) (xs : List Value) (L : List Nat) : Prop where
  blk : Blk W bs Z 247
  own : Own W 9 1 v k xs L
  mod : Mod [] w W
  new : bs ∉ L
  L0 : ∀ y ∈ L, w.heap.size ≤ y
  b0 : w.heap.size ≤ bs
theorem bytes_new (W : World) (s : ByteArray) : BytesAt (Lib.bytesWorld W 5 s) W.heap.size s := by
  intro j hj
  have hc : (Lib.bytesCells W 5 s)[j]? = some (.int .u8 (((byt s)[j]?.getD 0).toNat : Int)) := by
    unfold Lib.bytesCells
    rw [Array.getElem?_append_left (by simpa using hj), Array.getElem?_map]
    have : s.data[j]? = some (s.data[j]'hj) := Array.getElem?_eq_getElem hj
    rw [this, show (byt s)[j]? = some (s.data[j]'hj) by unfold byt; rw [Array.getElem?_toList, this]]
    rfl
  unfold Lib.bytesWorld
  rw [cell_freeze]
  have := World.cell?_alloc_new W.drew (Lib.bytesCells W 5 s) 5 j
  exact this.trans hc
theorem rp_step {w : World} {bs : Nat} {W : World} {Z : Array Value} {v : Value} {k : Nat} {xs : List Value} {L : List Nat} (h : Rp w bs W Z v k xs L) {W2 w1 : World} (hm2 : Mod [] W W2) {v' : Value} {ys : List Value} {L1 : List Nat}
    (g1 : Own w1 9 1 v' (k + 1) (xs ++ ys) L1) (g2 : Mod L W2 w1) (g3 : ∀ y ∈ L1, y ∈ L ∨ W2.heap.size ≤ y) (o : Nat) (s : ByteArray) (u : Value) :
    Rp w bs ((Lib.bytesWorld (w1.setCell ⟨bs, 256, none⟩ v') 5 s).setCell ⟨bs, o, none⟩ u) ((Z.setIfInBounds 256 v').setIfInBounds o u) v' (k + 1) (xs ++ ys) L1 ∧
      Mod (bs :: L) W ((Lib.bytesWorld (w1.setCell ⟨bs, 256, none⟩ v') 5 s).setCell ⟨bs, o, none⟩ u) ∧
      BytesAt ((Lib.bytesWorld (w1.setCell ⟨bs, 256, none⟩ v') 5 s).setCell ⟨bs, o, none⟩ u) (w1.setCell ⟨bs, 256, none⟩ v').heap.size s := by
  have hbl := h.blk.lt
  have hm1 : Mod (bs :: L) W (w1.setCell ⟨bs, 256, none⟩ v') := (hm2.trans g2 (m := bs :: L) (fun x hx _ => by cases hx) (fun x hx _ => List.mem_cons_of_mem _ hx)).setCell (Or.inl (by simp)) _
  have hmb := mod_bytes (w1.setCell ⟨bs, 256, none⟩ v') s
  have hm3 : Mod (bs :: L) W ((Lib.bytesWorld (w1.setCell ⟨bs, 256, none⟩ v') 5 s).setCell ⟨bs, o, none⟩ u) := (hm1.trans hmb (fun x hx _ => hx) (fun x hx _ => by cases hx)).setCell (Or.inl (by simp)) _
  have hn1 : bs ∉ L1 := fun hx => by
    rcases g3 _ hx with h1 | h1
    · exact h.new h1
    · have := hm2.size; omega
  have hlt1 := g1.lt
  refine ⟨⟨?_, ?_, ?_, hn1, ?_, h.b0⟩, hm3, ?_⟩
  · exact (hmb.blk (((g2.blk (hm2.blk h.blk (by simp)) h.new)).set 256 v') (by simp)).set o u
  · refine g1.mod (((Mod.refl [bs] w1).setCell (p := ⟨bs, 256, none⟩) (Or.inl (by simp)) v').trans (hmb.mono (fun x hx _ => by cases hx)) (m := [bs]) (fun x hx _ => hx) (fun x hx _ => hx) |>.setCell (p := ⟨bs, o, none⟩) (Or.inl (by simp)) u) (fun y hy hc => ?_)
    simp at hc
    subst hc
    exact hn1 hy
  · refine h.mod.trans hm3 (fun x hx _ => by cases hx) (fun x hx hlt => ?_)
    rcases List.mem_cons.1 hx with rfl | hx
    · have := h.b0; omega
    · have := h.L0 _ hx; omega
  · intro y hy
    rcases g3 y hy with h1 | h1
    · exact h.L0 y h1
    · have := h.mod.size; have := hm2.size; omega
  · intro j hj
    have hb := bytes_new (w1.setCell ⟨bs, 256, none⟩ v') s j hj
    have hne : (w1.setCell ⟨bs, 256, none⟩ v').heap.size ≠ bs := by
      have := hm1.size
      omega
    rw [World.cell?_setCell_other _ _ _ _ (by intro hc; exact hne (congrArg Addr.block hc).symm)]
    exact hb
end
end Go.Proofs.YtibhkldnimfnkaaGreatDoor
