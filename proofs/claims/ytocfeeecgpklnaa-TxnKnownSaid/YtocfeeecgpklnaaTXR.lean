/- lrec's May, and the document's. -/
import Derived.Test.YtocfeeecgpklnaaTXQ
namespace Go.Proofs.Ytocfeeecgpklnaa
set_option linter.unusedVariables false
set_option linter.unusedSimpArgs false
set_option linter.unusedSectionVars false
open Go.RowKit Go.Shelf

set_option maxRecDepth 100000 in
theorem lunless_c (z : Bool) (q : Int) (w : World) : Calls Try.prog 58 #[.bool z, .int .i64 q] w fun e w' => e = .returned (.int .i64 (if z then 0 else q)) ∧ w = w' := by
  cases z
  · go_enter Try.func58, Try.ntmps58
    go_wp2
    go_ret
    exact ⟨rfl, rfl⟩
  · go_enter Try.func58, Try.ntmps58
    go_wp2
    go_ret
    exact ⟨rfl, rfl⟩

set_option maxRecDepth 100000 in
set_option maxHeartbeats 1000000 in
theorem lfirst_c (w : World) (g n : Nat) (vs : List Value) (q : Int) (m : Nat) (hn : vs.length = n) (hn2 : n ≤ 100) (hb : ∀ i v, vs[i]? = some v → w.cell? ⟨g, i, none⟩ = some v) (h0 : ∀ i v, i < m → vs[i]? = some v → AskE w v 0)
    (hm : (m = n ∧ q = 0) ∨ (m < n ∧ q ≠ 0 ∧ ∀ v, vs[m]? = some v → AskE w v q)) :
    Calls Try.prog 56 #[.slice (some ⟨g, 0, none⟩) n n] w fun e w' => e = .returned (.int .i64 q) ∧ Mod [] w w' := by
  have Hb := hid hb
  have H0 := hid h0
  have Hm := hid hm
  have Hn := hid hn
  have hmn : m ≤ n := by omega
  clear hb h0 hm hn
  go_enter Try.func56, Try.ntmps56
  go_wp2
  go_loopg [8] n (fun g' p wr => ∃ i : Nat, p = .int .i64 i ∧ i + g' = n ∧ i ≤ m ∧ Hid (Mod [] w wr))
  · exact ⟨0, rfl, by omega, by omega, Mod.refl _ _⟩
  · obtain ⟨i, rfl, hi, him, hM⟩ := hrel
    rcases Nat.lt_or_ge i n with hlt | hge
    · have hli : (i : Int) < (n : Int) := by omega
      obtain ⟨v, hv⟩ : ∃ v, vs[i]? = some v := ⟨_, List.getElem?_eq_getElem (by rw [Hn.out]; exact hlt)⟩
      have c0 := hM.out.cellSome (Hb.out i v hv) (by simp)
      rcases Nat.lt_or_ge i m with h1 | h1
      · obtain ⟨k, p, c, rfl, eg, hc⟩ := (H0.out i v h1 hv).mod hM.out
        have HC := hid hc
        clear hc hv
        go_wp2_with fail
        refine (HC.out _ (Mod.refl [] wr)).mono ?_
        rintro e w2 ⟨rfl, hm2⟩
        have HM2 := hid (hM.out.tr hm2)
        clear hm2 HC c0 eg
        go_wp2
        go_roundg (gk - 1)
        case measure => omega
        case rel => exact ⟨i + 1, by go_num, by omega, by omega, HM2⟩
      · obtain rfl : i = m := by omega
        obtain ⟨_, hq, ha⟩ := Hm.out.resolve_left (by omega)
        obtain ⟨k, p, c, rfl, eg, hc⟩ := (ha v hv).mod hM.out
        have HC := hid hc
        have hq2 : (q == 0) = false := beq_eq_false_iff_ne.2 hq
        clear hc hv ha hq
        go_wp2_with fail
        refine (HC.out _ (Mod.refl [] wr)).mono ?_
        rintro e w2 ⟨rfl, hm2⟩
        have HM2 := hid (hM.out.tr hm2)
        clear hm2 HC c0 eg
        go_wp2
        go_ret
        exact ⟨rfl, HM2.out⟩
    · have hli : ¬ (i : Int) < (n : Int) := by omega
      have hq : q = 0 := by rcases Hm.out with h | h; exact h.2; omega
      clear hge
      go_wp2
      go_ret
      exact ⟨by first | rfl | exact ret_int hq.symm, hM.out⟩

def firstL : List Int → Int
  | [] => 0
  | q :: r => if q ≠ 0 then q else firstL r
theorem pickL (A : Value → Int → Prop) : ∀ (vs : List Value) (qs : List Int), vs.length = qs.length → (∀ (i : Nat) v q, vs[i]? = some v → qs[i]? = some q → A v q) → ∃ m, (∀ i v, i < m → vs[i]? = some v → A v 0) ∧ ((m = vs.length ∧ firstL qs = 0) ∨ (m < vs.length ∧ firstL qs ≠ 0 ∧ ∀ v, vs[m]? = some v → A v (firstL qs)))
  | [], [], _, _ => ⟨0, fun i v h => by omega, Or.inl ⟨rfl, rfl⟩⟩
  | [], q :: qs, h, _ => by simp at h
  | v :: vs, [], h, _ => by simp at h
  | v :: vs, q :: qs, h, ha => by
    by_cases hq : q = 0
    · obtain ⟨m, h1, h2⟩ := pickL A vs qs (by simpa using h) (fun i x y hx hy => ha (i + 1) x y (by simpa using hx) (by simpa using hy))
      have e : firstL (q :: qs) = firstL qs := by simp [firstL, hq]
      refine ⟨m + 1, fun i x hi hx => ?_, ?_⟩
      · cases i with
        | zero => simp at hx; subst hx; exact hq ▸ ha 0 v q rfl rfl
        | succ i => exact h1 i x (by omega) (by simpa using hx)
      · rw [e]
        rcases h2 with ⟨h3, h4⟩ | ⟨h3, h4, h5⟩
        · exact Or.inl ⟨by simp [h3], h4⟩
        · exact Or.inr ⟨by simp; omega, h4, fun x hx => h5 x (by simpa using hx)⟩
    · have e : firstL (q :: qs) = q := by simp [firstL, hq]
      refine ⟨0, fun i x hi hx => by omega, Or.inr ⟨by simp, by rw [e]; exact hq, fun x hx => ?_⟩⟩
      simp at hx; subst hx; rw [e]; exact ha 0 v q rfl rfl
theorem lasks_c (W : World) (T : TypeId) (n : Nat) (vs : List Value) (qs : List Int) (hv : vs.length = n) (hq : qs.length = n) (hn : n ≤ 100) (ha : ∀ (i : Nat) v q, vs[i]? = some v → qs[i]? = some q → AskE W v q) :
    Calls Try.prog 56 #[.slice (some ⟨W.heap.size, 0, none⟩) n n] (W.alloc (.cells vs.toArray T)) fun e w' => e = .returned (.int .i64 (firstL qs)) ∧ Mod [] W w' := by
  have hm := (Mod.refl [] W).alloc (.cells vs.toArray T)
  obtain ⟨m, h1, h2⟩ := pickL (AskE (W.alloc (.cells vs.toArray T))) vs qs (by omega) (fun i v q h h' => (ha i v q h h').mod hm)
  refine (lfirst_c (W.alloc (.cells vs.toArray T)) W.heap.size n vs (firstL qs) m hv hn (fun i v h => ?_) h1 ?_).mono (fun e w' h => ⟨h.1, hm.tr h.2⟩)
  · rw [(Blk.new W vs.toArray T).cell]; simpa using h
  · rw [← hv]; exact h2
theorem asks_c (W : World) (T : TypeId) (n : Nat) (vs : List Value) (qs : List Int) (hv : vs.length = n) (hq : qs.length = n) (hn : n ≤ 100) (ha : ∀ (i : Nat) v q, vs[i]? = some v → qs[i]? = some q → AskE W v q) :
    Calls Try.prog 37 #[.slice (some ⟨W.heap.size, 0, none⟩) n n] (W.alloc (.cells vs.toArray T)) fun e w' => e = .returned (.int .i64 (firstL qs)) ∧ Mod [] W w' := by
  have hm := (Mod.refl [] W).alloc (.cells vs.toArray T)
  obtain ⟨m, h1, h2⟩ := pickL (AskE (W.alloc (.cells vs.toArray T))) vs qs (by omega) (fun i v q h h' => (ha i v q h h').mod hm)
  refine (first_c (W.alloc (.cells vs.toArray T)) W.heap.size n vs (firstL qs) m hv hn (fun i v h => ?_) h1 ?_).mono (fun e w' h => ⟨h.1, hm.tr h.2⟩)
  · rw [(Blk.new W vs.toArray T).cell]; simpa using h
  · rw [← hv]; exact h2

theorem rc_info : (Try.prog.info? 32).map (·.size) = some 4 := by kernel_rfl
abbrev rcA (x : Rc) : Array Value := #[.string x.key, .int .u64 x.ln, .bool x.dl, .string x.vl]
def may1E (r : Rc) : Int := if r.key.size ≤ 16 ∧ r.vl.size ≤ 24 then 0 else 3
def may2E (r : Rc) : Int := if nonS r.key = true ∧ (r.dl = false ∨ nonS r.vl = false) then 0 else 2

section
variable (w : World) (q : Nat) (r : Rc)
set_option maxRecDepth 100000 in
theorem ask_may1 (hq : Blk w q (rcA r) 32) : AskE w (.func (.func 57) #[] #[.pointer (some ⟨q, 0, none⟩)]) (may1E r) := by
  refine ⟨_, _, _, rfl, enters_of Try.func57 (by kernel_rfl) rfl, fun W hW => ?_⟩
  have hQ := hW.blk hq (by simp)
  have q0 : W.cell? ⟨q, 0, none⟩ = some (.string r.key) := hQ.cell 0
  have q3 : W.cell? ⟨q, 3, none⟩ = some (.string r.vl) := hQ.cell 3
  have hql := hQ.lt
  clear hQ hq
  show Calls Try.prog _ #[_] _ _
  by_cases h1 : r.key.size ≤ 16
  · by_cases h2 : r.vl.size ≤ 24
    · have hE : Hid (may1E r = 0) := by show _ = _; unfold may1E; rw [if_pos ⟨h1, h2⟩]
      have i1 : (r.key.size : Int) ≤ 16 := by omega
      have i2 : (r.vl.size : Int) ≤ 24 := by omega
      clear h1 h2
      go_enter Try.func57, Try.ntmps57
      go_wp2_with (go_at_call 58; refine (lunless_c _ _ _).mono ?_; rintro e w' ⟨rfl, rfl⟩)
      go_ret
      exact ⟨by rw [hE.out]; rfl, Mod.refl _ _⟩
    · have hE : Hid (may1E r = 3) := by show _ = _; unfold may1E; rw [if_neg (fun h => h2 h.2)]
      have i1 : (r.key.size : Int) ≤ 16 := by omega
      have i2 : ¬ (r.vl.size : Int) ≤ 24 := by omega
      clear h1 h2
      go_enter Try.func57, Try.ntmps57
      go_wp2_with (go_at_call 58; refine (lunless_c _ _ _).mono ?_; rintro e w' ⟨rfl, rfl⟩)
      go_ret
      exact ⟨by rw [hE.out]; rfl, Mod.refl _ _⟩
  · have hE : Hid (may1E r = 3) := by show _ = _; unfold may1E; rw [if_neg (fun h => h1 h.1)]
    have i1 : ¬ (r.key.size : Int) ≤ 16 := by omega
    clear h1
    go_enter Try.func57, Try.ntmps57
    go_wp2_with (go_at_call 58; refine (lunless_c _ _ _).mono ?_; rintro e w' ⟨rfl, rfl⟩)
    go_ret
    exact ⟨by rw [hE.out]; rfl, Mod.refl _ _⟩

set_option maxRecDepth 100000 in
theorem ask_may2 (hq : Blk w q (rcA r) 32) : AskE w (.func (.func 59) #[] #[.pointer (some ⟨q, 0, none⟩)]) (may2E r) := by
  refine ⟨_, _, _, rfl, enters_of Try.func59 (by kernel_rfl) rfl, fun W hW => ?_⟩
  have hQ := hW.blk hq (by simp)
  have q0 : W.cell? ⟨q, 0, none⟩ = some (.string r.key) := hQ.cell 0
  have q2 : W.cell? ⟨q, 2, none⟩ = some (.bool r.dl) := hQ.cell 2
  have q3 : W.cell? ⟨q, 3, none⟩ = some (.string r.vl) := hQ.cell 3
  have hql := hQ.lt
  clear hQ hq
  show Calls Try.prog _ #[_] _ _
  obtain ⟨nk, hnk⟩ : ∃ u, nonS r.key = u := ⟨_, rfl⟩
  cases nk
  · have hE : Hid (may2E r = 2) := by show _ = _; unfold may2E; rw [hnk]; simp
    have xnk := nonS_no hnk
    clear hnk
    go_enter Try.func59, Try.ntmps59
    go_wp2_with (go_at_call 58; refine (lunless_c _ _ _).mono ?_; rintro e w' ⟨rfl, rfl⟩)
    go_ret
    exact ⟨by rw [hE.out]; rfl, Mod.refl _ _⟩
  · obtain ⟨d, hd⟩ : ∃ u, r.dl = u := ⟨_, rfl⟩
    rw [hd] at q2
    cases d
    · have hE : Hid (may2E r = 0) := by show _ = _; unfold may2E; rw [hnk, hd]; simp
      obtain ⟨xnk, ynk⟩ := nonS_yes hnk
      clear hnk hd
      go_enter Try.func59, Try.ntmps59
      go_wp2_with (go_at_call 58; refine (lunless_c _ _ _).mono ?_; rintro e w' ⟨rfl, rfl⟩)
      go_ret
      exact ⟨by rw [hE.out]; rfl, Mod.refl _ _⟩
    · obtain ⟨nv, hnv⟩ : ∃ u, nonS r.vl = u := ⟨_, rfl⟩
      cases nv
      · have hE : Hid (may2E r = 0) := by show _ = _; unfold may2E; rw [hnk, hd, hnv]; simp
        obtain ⟨xnk, ynk⟩ := nonS_yes hnk
        have xnv := nonS_no hnv
        clear hnv hnk hd
        go_enter Try.func59, Try.ntmps59
        go_wp2_with (go_at_call 58; refine (lunless_c _ _ _).mono ?_; rintro e w' ⟨rfl, rfl⟩)
        go_ret
        exact ⟨by rw [hE.out]; rfl, Mod.refl _ _⟩
      · have hE : Hid (may2E r = 2) := by show _ = _; unfold may2E; rw [hnk, hd, hnv]; simp
        obtain ⟨xnk, ynk⟩ := nonS_yes hnk
        obtain ⟨xnv, ynv⟩ := nonS_yes hnv
        clear hnv hnk hd
        go_enter Try.func59, Try.ntmps59
        go_wp2_with (go_at_call 58; refine (lunless_c _ _ _).mono ?_; rintro e w' ⟨rfl, rfl⟩)
        go_ret
        exact ⟨by rw [hE.out]; rfl, Mod.refl _ _⟩

end

theorem mayE_split (r : Rc) : mayE r = if may1E r ≠ 0 then may1E r else may2E r := by
  unfold mayE may1E may2E
  by_cases h : r.key.size ≤ 16 ∧ r.vl.size ≤ 24
  · rw [if_pos h, if_pos h]; simp
  · rw [if_neg h, if_neg h]; simp
theorem may1_yes {r : Rc} (h : r.key.size ≤ 16 ∧ r.vl.size ≤ 24) : mayE r = may2E r := by rw [mayE_split, show may1E r = 0 from by unfold may1E; rw [if_pos h]]; simp
theorem may1_no {r : Rc} (h : ¬ (r.key.size ≤ 16 ∧ r.vl.size ≤ 24)) : mayE r = 3 := by rw [mayE_split, show may1E r = 3 from by unfold may1E; rw [if_neg h]]; simp
theorem may1_cases (r : Rc) : may1E r = 0 ∨ may1E r = 3 := by unfold may1E; split <;> simp
theorem may2_cases (r : Rc) : may2E r = 0 ∨ may2E r = 2 := by unfold may2E; split <;> simp

set_option maxRecDepth 100000 in
theorem may_c (w : World) (r : Rc) : Calls Try.prog 43 #[rcV r] w fun e w' => e = .returned (.int .i64 (mayE r)) ∧ Mod [] w w' := by
  have hB := Blk.new w (rcA r) 32
  have HB := hid hB
  have HM := hid ((Mod.refl [] w).alloc (.cells (rcA r) 32))
  go_enter Try.func43, Try.ntmps43
  go_upto_region 1 with (fail)
  clear hB
  generalize w.alloc (.cells (rcA r) 32) = W at *
  generalize w.heap.size = q at *
  have hF : Hid (Calls Try.prog 56 #[.slice (some ⟨W.heap.size, 0, none⟩) 2 2] (W.alloc (.cells #[.func (.func 57) #[] #[.pointer (some ⟨q, 0, none⟩)], .func (.func 59) #[] #[.pointer (some ⟨q, 0, none⟩)]] 73)) fun e w' => e = .returned (.int .i64 (firstL [may1E r, may2E r])) ∧ Mod [] W w') := by
    refine lasks_c W _ 2 [_, _] [may1E r, may2E r] rfl rfl (by omega) ?_
    intro i v z h h'
    rcases i with _ | _ | i
    · simp at h h'; subst h h'; exact ask_may1 W q r HB.out
    · simp at h h'; subst h h'; exact ask_may2 W q r HB.out
    · simp at h
  have hE : Hid (firstL [may1E r, may2E r] = mayE r) := by
    show _ = _
    rw [mayE_split]
    by_cases h : may1E r = 0
    · simp only [firstL, h]; simp; exact fun h => h.symm
    · simp only [firstL]; simp [h]
  go_wp2_with fail
  refine hF.out.mono ?_
  rintro e w' ⟨rfl, hm⟩
  rw [hE.out]
  have Hm := hid (HM.out.tr hm)
  clear hm hF hE
  go_wp2
  go_ret
  exact ⟨rfl, Hm.out⟩

set_option maxRecDepth 100000 in
theorem rmay_c (w : World) (r : Rc) : Calls Try.prog 65 #[rcV r] w fun e w' => e = .returned (.int .i64 (mayE r)) ∧ Mod [] w w' := by
  have hB := Blk.new w (rcA r) 32
  have HM := hid ((Mod.refl [] w).alloc (.cells (rcA r) 32))
  have q0 := hB.cell 0
  have q2 := hB.cell 2
  have q3 := hB.cell 3
  have hql := hB.lt
  simp only [List.getElem?_toArray, List.getElem?_cons_zero, List.getElem?_cons_succ] at q0 q2 q3
  have hE : Hid (mayE r = if may1E r ≠ 0 then may1E r else may2E r) := mayE_split r
  go_enter Try.func65, Try.ntmps65
  go_upto_region 1 with (fail)
  clear hB
  generalize w.alloc (.cells (rcA r) 32) = W at *
  generalize w.heap.size = q at *
  by_cases h1 : r.key.size ≤ 16
  · by_cases h2 : r.vl.size ≤ 24
    · have hE1 : Hid (mayE r = may2E r) := by exact may1_yes ⟨h1, h2⟩
      have i1 : ¬ (16 : Int) < (r.key.size : Int) := by omega
      have i2 : ¬ (24 : Int) < (r.vl.size : Int) := by omega
      clear h1 h2 hE
      obtain ⟨nk, hnk⟩ : ∃ u, nonS r.key = u := ⟨_, rfl⟩
      cases nk
      · have hE : Hid (mayE r = 2) := by show _ = _; rw [hE1.out]; unfold may2E; rw [hnk]; simp
        have xnk := nonS_no hnk
        clear hnk
        go_wp2
        go_ret
        exact ⟨by rw [hE.out]; rfl, HM.out⟩
      · obtain ⟨d, hd⟩ : ∃ u, r.dl = u := ⟨_, rfl⟩
        rw [hd] at q2
        cases d
        · have hE : Hid (mayE r = 0) := by show _ = _; rw [hE1.out]; unfold may2E; rw [hnk, hd]; simp
          obtain ⟨xnk, ynk⟩ := nonS_yes hnk
          clear hnk hd
          go_wp2
          go_ret
          exact ⟨by rw [hE.out]; rfl, HM.out⟩
        · obtain ⟨nv, hnv⟩ : ∃ u, nonS r.vl = u := ⟨_, rfl⟩
          cases nv
          · have hE : Hid (mayE r = 0) := by show _ = _; rw [hE1.out]; unfold may2E; rw [hnk, hd, hnv]; simp
            obtain ⟨xnk, ynk⟩ := nonS_yes hnk
            have xnv := nonS_no hnv
            clear hnv hnk hd
            go_wp2
            go_ret
            exact ⟨by rw [hE.out]; rfl, HM.out⟩
          · have hE : Hid (mayE r = 2) := by show _ = _; rw [hE1.out]; unfold may2E; rw [hnk, hd, hnv]; simp
            obtain ⟨xnk, ynk⟩ := nonS_yes hnk
            obtain ⟨xnv, ynv⟩ := nonS_yes hnv
            clear hnv hnk hd
            go_wp2
            go_ret
            exact ⟨by rw [hE.out]; rfl, HM.out⟩
    · have hE1 : Hid (mayE r = 3) := by exact may1_no (fun h => h2 h.2)
      have i1 : ¬ (16 : Int) < (r.key.size : Int) := by omega
      have i2 : (24 : Int) < (r.vl.size : Int) := by omega
      clear h1 h2 hE
      go_wp2
      go_ret
      exact ⟨by rw [hE1.out]; rfl, HM.out⟩
  · have hE1 : Hid (mayE r = 3) := by exact may1_no (fun h => h1 h.1)
    have i1 : (16 : Int) < (r.key.size : Int) := by omega
    clear h1 hE
    go_wp2
    go_ret
    exact ⟨by rw [hE1.out]; rfl, HM.out⟩
end Go.Proofs.Ytocfeeecgpklnaa
