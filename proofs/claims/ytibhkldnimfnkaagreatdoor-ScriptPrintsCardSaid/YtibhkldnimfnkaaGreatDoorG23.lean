/- Script: parts B5 B6. -/
import Derived.Test.YtibhkldnimfnkaaGreatDoorG22

/- Script, the reference: the table. -/
namespace Go.Proofs.YtibhkldnimfnkaaGreatDoor
section
set_option linter.unusedVariables false
set_option linter.unusedSimpArgs false
set_option linter.unusedSectionVars false
open Go.RowKit

def lettP : Pl → UInt8
  | .nA _ _ => 78
  | .nB _ _ => 78
  | .who => 87
  | .ts => 84
  | .key lo => if lo = 0 then 69 else 75
  | .hi => 69
  | .val => 86
def loP : Pl → Nat
  | .nA lo _ => lo
  | .nB lo _ => lo
  | _ => 0
def hiP : Pl → Nat
  | .nA _ hi => hi
  | .nB _ hi => hi
  | _ => 0
def folR (r : Rw) : Bs := r.pl.map lettP
def loR (r : Rw) : Nat := (r.pl.map loP).foldl max 0
def hiR (r : Rw) : Nat := (r.pl.map hiP).foldl max 0
/-- A row of the reference, in memory; and as a value. -/
def rrC (r : Rw) : List Value := [.string (str r.word), .int .i64 r.kind, .int .i64 0, .int .i64 0, .int .i64 r.ck, .int .u64 0, .string mt0, .string mt0, .string mt0, .string (str (folR r)), .int .u64 (loR r : Int), .int .u64 (hiR r : Int)]
def refA : Array Value := (flat rrC rowsL).toArray
set_option maxRecDepth 100000 in
set_option maxHeartbeats 4000000 in
theorem rows_r (w : World) : Calls Tryz.prog 45 #[] w fun e w' => e = .returned (.slice (some ⟨w.heap.size, 0, none⟩) 18 18) ∧ w' = w.alloc (.cells refA 109) := by
  go_enter Tryz.func45, Tryz.ntmps45
  go_wp2_with fail
  refine Oper.wp_value (.slice (some ⟨w.heap.size, 0, none⟩) 18 18) (w' := w.alloc (.cells refA 109)) (by kernel_rfl) ?_
  go_wp2_with fail
  go_ret
  exact ⟨rfl, rfl⟩
end
end Go.Proofs.YtibhkldnimfnkaaGreatDoor

/- Script, the reference: fill. -/
namespace Go.Proofs.YtibhkldnimfnkaaGreatDoor
section
set_option linter.unusedVariables false
set_option linter.unusedSimpArgs false
set_option linter.unusedSectionVars false
open Go.RowKit

abbrev rrV (r : Rw) : Value := .agg #[.string (str r.word), .int .i64 r.kind, .int .i64 0, .int .i64 0, .int .i64 r.ck, .int .u64 0, .string mt0, .string mt0, .string mt0, .string (str (folR r)), .int .u64 (loR r : Int), .int .u64 (hiR r : Int)]
abbrev rrA (r : Rw) : Array Value := #[.string (str r.word), .int .i64 r.kind, .int .i64 0, .int .i64 0, .int .i64 r.ck, .int .u64 0, .string mt0, .string mt0, .string mt0, .string (str (folR r)), .int .u64 (loR r : Int), .int .u64 (hiR r : Int)]
/-- What a place of a row is, as the reference tells it. -/
def plOk (r : Rw) (j : Nat) (p : Pl) : Bool := match p with
  | .nA lo hi => j == 0 && loR r == lo && hiR r == hi
  | .nB lo hi => j != 0 && loR r == lo && hiR r == hi
  | .key lo => if lo = 0 then j == 1 else lo == 1
  | .hi => j != 1
  | _ => true
def rowOk (r : Rw) : Bool := (List.range r.pl.length).all fun j => match r.pl[j]? with | none => true | some p => plOk r j p
theorem rows_plOk : rowsL.all rowOk = true := by decide
theorem plOk_of {r : Rw} (h : r ∈ rowsL) {j : Nat} {p : Pl} (hp : r.pl[j]? = some p) : plOk r j p = true := by
  have h1 := List.all_eq_true.1 rows_plOk r h
  have hj := (List.getElem?_eq_some_iff.1 hp).1
  have h2 := List.all_eq_true.1 h1 j (List.mem_range.2 hj)
  rw [hp] at h2
  exact h2
theorem fol_at {r : Rw} {j : Nat} {p : Pl} (hp : r.pl[j]? = some p) : (folR r)[j]? = some (lettP p) := by
  unfold folR
  rw [List.getElem?_map, hp]
  rfl
/-- What fill answers. -/
def FillG (o : Option St) (b : Nat) (w : World) (e : Ending) (w' : World) : Prop := Mod [b] w w' ∧ e = .returned (.bool o.isSome) ∧ ∃ t', Blk w' b (stA t') 46 ∧ ∀ t2, o = some t2 → t' = t2

set_option maxRecDepth 100000 in
set_option maxHeartbeats 4000000 in
theorem fill_r (r : Rw) (j : Nat) (p : Pl) (hr : r ∈ rowsL) (hp : r.pl[j]? = some p) (x : Wd) (t : St) (b : Nat) (w : World) (hb : Blk w b (stA t) 46) (hx : x.text.length < 4294967000) (h0 : p = .who → t.a = 0) :
    Calls Tryz.prog 46 #[.pointer (some ⟨b, 0, none⟩), rrV r, .int .i64 (j : Int), wdV x] w (FillG (readP p x t) b w) := by
  have hok := plOk_of hr hp
  have hix := run_at (str (folR r)) j (lettP p) (fol_at hp)
  obtain ⟨X, hX⟩ : ∃ X, X = (w.alloc (.cells (rrA r) 109)).alloc (.cells #[.string (str x.text), .bool x.quoted] 107) := ⟨_, rfl⟩
  have hmX : Mod [] w X := by rw [hX]; exact ((Mod.refl [] w).alloc _).alloc _
  have hbX := hmX.blk hb (by simp)
  have HX := hid hX
  have HMX : Hid (Mod [b] w X) := hmX.any
  have HBX := hid hbX
  have HBW := hid hb
  have hbl := hb.lt
  have hne : ¬ w.heap.size = b := by omega
  have hne2 : ¬ w.heap.size + 1 = b := by omega
  have b1 := hb.cell 1
  have b2 := hb.cell 2
  have b4 := hb.cell 4
  have b5 := hb.cell 5
  have b6 := hb.cell 6
  have b7 := hb.cell 7
  have f1 := hb.free 1
  have f2 := hb.free 2
  have f4 := hb.free 4
  have f5 := hb.free 5
  have f6 := hb.free 6
  have f7 := hb.free 7
  simp only [List.getElem?_toArray, List.getElem?_cons_zero, List.getElem?_cons_succ] at b1 b2 b4 b5 b6 b7
  clear hX hmX hbX hb
  cases p with
  | nA lo hi =>
    simp only [plOk, Bool.and_eq_true, beq_iff_eq] at hok
    obtain ⟨⟨rfl, rfl⟩, rfl⟩ := hok
    have HN := hid (number_r x (loR r) (hiR r) X hx)
    rw [HX.out] at HN
    simp only [lettP] at hix
    rw [show ((0 : Nat) : Int) = 0 from rfl] at hix ⊢
    go_enter Tryz.func46, Tryz.ntmps46
    go_wp2_with fail
    refine HN.out.mono ?_
    rintro e w3 ⟨hm, n, rfl, hn13, hnm⟩
    rw [← HX.out] at hm
    have hb3 := hm.blk HBX.out (by simp)
    have c1 := hb3.cell 1
    have g1 := hb3.free 1
    have l1 := hb3.lt
    simp only [List.getElem?_toArray, List.getElem?_cons_zero, List.getElem?_cons_succ] at c1
    have HB3 := hid hb3
    have HM3 := hid (HMX.out.trans hm.any (fun _ h _ => h) (fun _ h _ => h) (m := [b]))
    have HNM := hid hnm
    have hwn : IntKind.i64.wrap (n : Int) = (n : Int) := by rw [IntKind.wrap_i64]; omega
    clear hm hnm hb3
    go_wp2_with fail
    refine bodyPost_ret (v := .bool (numL x (loR r) (hiR r)).isSome) (by simp [results, Tryz.results46, go_sem]) rfl ⟨HM3.out.setCell (p := ⟨b, 1, none⟩) (Or.inl (by simp)) _, ?_, { t with a := (n : Int) }, HB3.out.set 1 _, ?_⟩
    · cases hq : numL x (loR r) (hiR r) <;> simp [readP, hq]
    · intro t2 h2
      cases hq : numL x (loR r) (hiR r) with
      | none => simp [readP, hq] at h2
      | some m =>
        have e := HNM.out m hq
        subst e
        simp [readP, hq] at h2
        exact h2
  | nB lo hi =>
    simp only [plOk, Bool.and_eq_true, beq_iff_eq, bne_iff_ne, ne_eq] at hok
    obtain ⟨⟨hj0, rfl⟩, rfl⟩ := hok
    have hj1 : ¬ (j : Int) = 0 := by omega
    have HN := hid (number_r x (loR r) (hiR r) X hx)
    rw [HX.out] at HN
    simp only [lettP] at hix
    go_enter Tryz.func46, Tryz.ntmps46
    go_wp2_with fail
    refine HN.out.mono ?_
    rintro e w3 ⟨hm, n, rfl, hn13, hnm⟩
    rw [← HX.out] at hm
    have hb3 := hm.blk HBX.out (by simp)
    have c1 := hb3.cell 2
    have g1 := hb3.free 2
    have l1 := hb3.lt
    simp only [List.getElem?_toArray, List.getElem?_cons_zero, List.getElem?_cons_succ] at c1
    have HB3 := hid hb3
    have HM3 := hid (HMX.out.trans hm.any (fun _ h _ => h) (fun _ h _ => h) (m := [b]))
    have HNM := hid hnm
    have hwn : IntKind.i64.wrap (n : Int) = (n : Int) := by rw [IntKind.wrap_i64]; omega
    clear hm hnm hb3
    go_wp2_with fail
    refine bodyPost_ret (v := .bool (numL x (loR r) (hiR r)).isSome) (by simp [results, Tryz.results46, go_sem]) rfl ⟨HM3.out.setCell (p := ⟨b, 2, none⟩) (Or.inl (by simp)) _, ?_, { t with b := (n : Int) }, HB3.out.set 2 _, ?_⟩
    · cases hq : numL x (loR r) (hiR r) <;> simp [readP, hq]
    · intro t2 h2
      cases hq : numL x (loR r) (hiR r) with
      | none => simp [readP, hq] at h2
      | some m =>
        have e := HNM.out m hq
        subst e
        simp [readP, hq] at h2
        exact h2
  | who =>
    simp only [lettP] at hix
    obtain ⟨tx, q⟩ := x
    have ha := h0 rfl
    by_cases e1 : tx = dcB
    · subst e1
      simp only [dcB] at *
      cases q
      · go_enter Tryz.func46, Tryz.ntmps46
        go_wp2_with fail
        refine bodyPost_ret (v := .bool true) (by simp [results, Tryz.results46, go_sem]) rfl ⟨(((Mod.refl [b] w).setCell (p := ⟨b, 1, none⟩) (Or.inl (by simp)) _).alloc _).alloc _, ?_, { t with a := 1 }, ((HBW.out.set 1 _).alloc _).alloc _, ?_⟩
        · simp [readP, tcB, dcB]
        · intro t2 h2; first | (simp [readP, tcB, dcB] at h2; exact h2) | (simp [readP, tcB, dcB] at h2)
      · go_enter Tryz.func46, Tryz.ntmps46
        go_wp2_with fail
        refine bodyPost_ret (v := .bool false) (by simp [results, Tryz.results46, go_sem]) rfl ⟨(((Mod.refl [b] w).setCell (p := ⟨b, 1, none⟩) (Or.inl (by simp)) _).alloc _).alloc _, ?_, { t with a := 1 }, ((HBW.out.set 1 _).alloc _).alloc _, ?_⟩
        · simp [readP, tcB, dcB]
        · intro t2 h2; first | (simp [readP, tcB, dcB] at h2; exact h2) | (simp [readP, tcB, dcB] at h2)
    · have e1' : (tx == [100, 99]) = false := beq_eq_false_iff_ne.2 e1
      by_cases e2 : tx = tcB
      · subst e2
        simp only [tcB] at *
        cases q
        · go_enter Tryz.func46, Tryz.ntmps46
          go_wp2_with fail
          rw [← HX.out]
          refine bodyPost_ret (v := .bool true) (by simp [results, Tryz.results46, go_sem]) rfl ⟨HMX.out, ?_, t, HBX.out, ?_⟩
          · simp [readP, tcB, dcB]
          · intro t2 h2; (simp [readP, tcB, dcB] at h2; rw [← h2]; cases t; simp at ha; simp [ha])
        · go_enter Tryz.func46, Tryz.ntmps46
          go_wp2_with fail
          rw [← HX.out]
          refine bodyPost_ret (v := .bool false) (by simp [results, Tryz.results46, go_sem]) rfl ⟨HMX.out, ?_, t, HBX.out, ?_⟩
          · simp [readP, tcB, dcB]
          · intro t2 h2; simp [readP, tcB, dcB] at h2
      · have e2' : (tx == [116, 99]) = false := beq_eq_false_iff_ne.2 e2
        cases q
        · go_enter Tryz.func46, Tryz.ntmps46
          go_wp2_with fail
          rw [← HX.out]
          refine bodyPost_ret (v := .bool false) (by simp [results, Tryz.results46, go_sem]) rfl ⟨HMX.out, ?_, t, HBX.out, ?_⟩
          · simp [readP, e1, e2]
          · intro t2 h2; simp [readP, e1, e2] at h2
        · go_enter Tryz.func46, Tryz.ntmps46
          go_wp2_with fail
          rw [← HX.out]
          refine bodyPost_ret (v := .bool false) (by simp [results, Tryz.results46, go_sem]) rfl ⟨HMX.out, ?_, t, HBX.out, ?_⟩
          · simp [readP]
          · intro t2 h2; simp [readP] at h2
  | ts =>
    have HN := hid (number_r x 1 1099511627776 X hx)
    rw [HX.out] at HN
    simp only [lettP] at hix
    go_enter Tryz.func46, Tryz.ntmps46
    go_wp2_with fail
    refine HN.out.mono ?_
    rintro e w3 ⟨hm, n, rfl, hn13, hnm⟩
    rw [← HX.out] at hm
    have hb3 := hm.blk HBX.out (by simp)
    have c1 := hb3.cell 4
    have g1 := hb3.free 4
    have l1 := hb3.lt
    simp only [List.getElem?_toArray, List.getElem?_cons_zero, List.getElem?_cons_succ] at c1
    have HB3 := hid hb3
    have HM3 := hid (HMX.out.trans hm.any (fun _ h _ => h) (fun _ h _ => h) (m := [b]))
    have HNM := hid hnm
    have hwn : IntKind.i64.wrap (n : Int) = (n : Int) := by rw [IntKind.wrap_i64]; omega
    clear hm hnm hb3
    go_wp2_with fail
    refine bodyPost_ret (v := .bool (numL x 1 1099511627776).isSome) (by simp [results, Tryz.results46, go_sem]) rfl ⟨HM3.out.setCell (p := ⟨b, 4, none⟩) (Or.inl (by simp)) _, ?_, { t with ts := n }, HB3.out.set 4 _, ?_⟩
    · cases hq : numL x 1 1099511627776 <;> simp [readP, hq]
    · intro t2 h2
      cases hq : numL x 1 1099511627776 with
      | none => simp [readP, hq] at h2
      | some m =>
        have e := HNM.out m hq
        subst e
        simp [readP, hq] at h2
        exact h2
  | key lo =>
    by_cases hl : lo = 0
    · subst hl
      simp only [plOk, if_true, beq_iff_eq] at hok
      subst hok
      simp only [lettP, if_true] at hix
      rw [show ((1 : Nat) : Int) = 1 from rfl] at hix ⊢
      obtain ⟨tx, q⟩ := x
      cases q
      · go_enter Tryz.func46, Tryz.ntmps46
        go_wp2_with fail
        refine bodyPost_ret (v := .bool false) (by simp [results, Tryz.results46, go_sem]) rfl ⟨(((Mod.refl [b] w).setCell (p := ⟨b, 5, none⟩) (Or.inl (by simp)) _).alloc _).alloc _, ?_, { t with key := tx }, ((HBW.out.set 5 _).alloc _).alloc _, ?_⟩
        · simp [readP, saidL]
        · intro t2 h2; first | (simp [readP, saidL] at h2; exact h2) | (simp [readP, saidL] at h2)
      · by_cases g1 : tx.length ≤ 16
        · have z1 : (tx.length : Int) ≤ 16 := by omega
          go_enter Tryz.func46, Tryz.ntmps46
          go_wp2_with fail
          refine bodyPost_ret (v := .bool true) (by simp [results, Tryz.results46, go_sem]) rfl ⟨(((Mod.refl [b] w).setCell (p := ⟨b, 5, none⟩) (Or.inl (by simp)) _).alloc _).alloc _, ?_, { t with key := tx }, ((HBW.out.set 5 _).alloc _).alloc _, ?_⟩
          · simp [readP, saidL, g1]
          · intro t2 h2; first | (simp [readP, saidL, g1] at h2; exact h2) | (simp [readP, saidL, g1] at h2)
        · have z1 : ¬ (tx.length : Int) ≤ 16 := by omega
          go_enter Tryz.func46, Tryz.ntmps46
          go_wp2_with fail
          refine bodyPost_ret (v := .bool false) (by simp [results, Tryz.results46, go_sem]) rfl ⟨(((Mod.refl [b] w).setCell (p := ⟨b, 5, none⟩) (Or.inl (by simp)) _).alloc _).alloc _, ?_, { t with key := tx }, ((HBW.out.set 5 _).alloc _).alloc _, ?_⟩
          · simp [readP, saidL, g1]
          · intro t2 h2; first | (simp [readP, saidL, g1] at h2; exact h2) | (simp [readP, saidL, g1] at h2)
    · rw [plOk, if_neg hl] at hok
      have hl1 : lo = 1 := by simpa using hok
      subst hl1
      simp only [lettP, if_neg hl] at hix
      obtain ⟨tx, q⟩ := x
      cases q
      · go_enter Tryz.func46, Tryz.ntmps46
        go_wp2_with fail
        refine bodyPost_ret (v := .bool false) (by simp [results, Tryz.results46, go_sem]) rfl ⟨(((Mod.refl [b] w).setCell (p := ⟨b, 5, none⟩) (Or.inl (by simp)) _).alloc _).alloc _, ?_, { t with key := tx }, ((HBW.out.set 5 _).alloc _).alloc _, ?_⟩
        · simp [readP, saidL]
        · intro t2 h2; first | (simp [readP, saidL] at h2; exact h2) | (simp [readP, saidL] at h2)
      · by_cases g1 : tx.length ≤ 16
        · have z1 : (tx.length : Int) ≤ 16 := by omega
          by_cases g2 : 1 ≤ tx.length
          · have z2 : (1 : Int) ≤ (tx.length : Int) := by omega
            go_enter Tryz.func46, Tryz.ntmps46
            go_wp2_with fail
            refine bodyPost_ret (v := .bool true) (by simp [results, Tryz.results46, go_sem]) rfl ⟨(((Mod.refl [b] w).setCell (p := ⟨b, 5, none⟩) (Or.inl (by simp)) _).alloc _).alloc _, ?_, { t with key := tx }, ((HBW.out.set 5 _).alloc _).alloc _, ?_⟩
            · simp [readP, saidL, g1, g2]
            · intro t2 h2; first | (simp [readP, saidL, g1, g2] at h2; exact h2) | (simp [readP, saidL, g1, g2] at h2)
          · have z2 : ¬ (1 : Int) ≤ (tx.length : Int) := by omega
            go_enter Tryz.func46, Tryz.ntmps46
            go_wp2_with fail
            refine bodyPost_ret (v := .bool false) (by simp [results, Tryz.results46, go_sem]) rfl ⟨(((Mod.refl [b] w).setCell (p := ⟨b, 5, none⟩) (Or.inl (by simp)) _).alloc _).alloc _, ?_, { t with key := tx }, ((HBW.out.set 5 _).alloc _).alloc _, ?_⟩
            · simp [readP, saidL, g1, g2]
            · intro t2 h2; first | (simp [readP, saidL, g1, g2] at h2; exact h2) | (simp [readP, saidL, g1, g2] at h2)
        · have z1 : ¬ (tx.length : Int) ≤ 16 := by omega
          have z2 : (1 : Int) ≤ (tx.length : Int) := by omega
          go_enter Tryz.func46, Tryz.ntmps46
          go_wp2_with fail
          refine bodyPost_ret (v := .bool false) (by simp [results, Tryz.results46, go_sem]) rfl ⟨(((Mod.refl [b] w).setCell (p := ⟨b, 5, none⟩) (Or.inl (by simp)) _).alloc _).alloc _, ?_, { t with key := tx }, ((HBW.out.set 5 _).alloc _).alloc _, ?_⟩
          · simp [readP, saidL, g1]
          · intro t2 h2; first | (simp [readP, saidL, g1] at h2; exact h2) | (simp [readP, saidL, g1] at h2)
  | hi =>
    have hj1 : ¬ (j : Int) = 1 := by simp [plOk] at hok; omega
    simp only [lettP] at hix
    obtain ⟨tx, q⟩ := x
    cases q
    · go_enter Tryz.func46, Tryz.ntmps46
      go_wp2_with fail
      refine bodyPost_ret (v := .bool false) (by simp [results, Tryz.results46, go_sem]) rfl ⟨(((Mod.refl [b] w).setCell (p := ⟨b, 6, none⟩) (Or.inl (by simp)) _).alloc _).alloc _, ?_, { t with hi := tx }, ((HBW.out.set 6 _).alloc _).alloc _, ?_⟩
      · simp [readP, saidL]
      · intro t2 h2; first | (simp [readP, saidL] at h2; exact h2) | (simp [readP, saidL] at h2)
    · by_cases g1 : tx.length ≤ 16
      · have z1 : (tx.length : Int) ≤ 16 := by omega
        go_enter Tryz.func46, Tryz.ntmps46
        go_wp2_with fail
        refine bodyPost_ret (v := .bool true) (by simp [results, Tryz.results46, go_sem]) rfl ⟨(((Mod.refl [b] w).setCell (p := ⟨b, 6, none⟩) (Or.inl (by simp)) _).alloc _).alloc _, ?_, { t with hi := tx }, ((HBW.out.set 6 _).alloc _).alloc _, ?_⟩
        · simp [readP, saidL, g1]
        · intro t2 h2; first | (simp [readP, saidL, g1] at h2; exact h2) | (simp [readP, saidL, g1] at h2)
      · have z1 : ¬ (tx.length : Int) ≤ 16 := by omega
        go_enter Tryz.func46, Tryz.ntmps46
        go_wp2_with fail
        refine bodyPost_ret (v := .bool false) (by simp [results, Tryz.results46, go_sem]) rfl ⟨(((Mod.refl [b] w).setCell (p := ⟨b, 6, none⟩) (Or.inl (by simp)) _).alloc _).alloc _, ?_, { t with hi := tx }, ((HBW.out.set 6 _).alloc _).alloc _, ?_⟩
        · simp [readP, saidL, g1]
        · intro t2 h2; first | (simp [readP, saidL, g1] at h2; exact h2) | (simp [readP, saidL, g1] at h2)
  | val =>
    simp only [lettP] at hix
    obtain ⟨tx, q⟩ := x
    cases q
    · go_enter Tryz.func46, Tryz.ntmps46
      go_wp2_with fail
      refine bodyPost_ret (v := .bool false) (by simp [results, Tryz.results46, go_sem]) rfl ⟨(((Mod.refl [b] w).setCell (p := ⟨b, 7, none⟩) (Or.inl (by simp)) _).alloc _).alloc _, ?_, { t with val := tx }, ((HBW.out.set 7 _).alloc _).alloc _, ?_⟩
      · simp [readP, saidL]
      · intro t2 h2; first | (simp [readP, saidL] at h2; exact h2) | (simp [readP, saidL] at h2)
    · by_cases g1 : tx.length ≤ 24
      · have z1 : (tx.length : Int) ≤ 24 := by omega
        go_enter Tryz.func46, Tryz.ntmps46
        go_wp2_with fail
        refine bodyPost_ret (v := .bool true) (by simp [results, Tryz.results46, go_sem]) rfl ⟨(((Mod.refl [b] w).setCell (p := ⟨b, 7, none⟩) (Or.inl (by simp)) _).alloc _).alloc _, ?_, { t with val := tx }, ((HBW.out.set 7 _).alloc _).alloc _, ?_⟩
        · simp [readP, saidL, g1]
        · intro t2 h2; first | (simp [readP, saidL, g1] at h2; exact h2) | (simp [readP, saidL, g1] at h2)
      · have z1 : ¬ (tx.length : Int) ≤ 24 := by omega
        go_enter Tryz.func46, Tryz.ntmps46
        go_wp2_with fail
        refine bodyPost_ret (v := .bool false) (by simp [results, Tryz.results46, go_sem]) rfl ⟨(((Mod.refl [b] w).setCell (p := ⟨b, 7, none⟩) (Or.inl (by simp)) _).alloc _).alloc _, ?_, { t with val := tx }, ((HBW.out.set 7 _).alloc _).alloc _, ?_⟩
        · simp [readP, saidL, g1]
        · intro t2 h2; first | (simp [readP, saidL, g1] at h2; exact h2) | (simp [readP, saidL, g1] at h2)
end
end Go.Proofs.YtibhkldnimfnkaaGreatDoor
