/- Script: parts YW YX YY. -/
import Derived.Test.YtibhkldnimfnkaaGreatDoorG15

/- Script: the laws' told. -/
namespace Go.Proofs.YtibhkldnimfnkaaGreatDoor
section
set_option linter.unusedVariables false
set_option linter.unusedSimpArgs false
set_option linter.unusedSectionVars false
open Go.RowKit

/-- errors.errorType is there. -/
def AsOk (w : World) : Prop := w.cell? ⟨0, 0, none⟩ = some (.iface 147 (.agg #[.pointer (some ⟨9, 24, none⟩)]))
/-- What the walks ask of a world. -/
structure WOk (w : World) : Prop where
  tab : Tab w
  mx : MaxL w
  ty : AsOk w
theorem WOk.mod {w w' : World} (h : WOk w) (hm : Mod [] w w') : WOk w' := by
  refine ⟨h.tab.mod hm (by simp), h.mx.mod hm, ?_⟩
  have := h.ty
  unfold AsOk at this ⊢
  exact hm.cellSome this (by simp)
/-- An error: none, or a fault. -/
def ErrV (o : Option (Nat × Nat)) (v : Value) (w : World) : Prop := match o with
  | none => v = .nilIface
  | some (c, i) => ∃ b, v = .iface 62 (.pointer (some ⟨b, 0, none⟩)) ∧ Blk w b #[.int .i64 (c : Int), .int .i64 (i : Int)] 29
theorem ErrV.mod {o : Option (Nat × Nat)} {v : Value} {w w' : World} (h : ErrV o v w) (hm : Mod [] w w') : ErrV o v w' := by
  cases o with
  | none => exact h
  | some p => obtain ⟨b, e, hb⟩ := h; exact ⟨b, e, hm.blk hb (by simp)⟩
def toldB (o : Option (Nat × Nat)) (c' i' : Int) : Bool := match o with
  | none => decide (c' = 0)
  | some (c, i) => !decide (c' = 0) && (decide ((c : Int) = c') && decide ((i : Int) = i'))

theorem as_c (b tb : Nat) (old : Value) (w : World) (ha : AsOk w) (ht : Blk w tb #[old] 62) :
    Calls Tryz.prog 26 #[.iface 62 (.pointer (some ⟨b, 0, none⟩)), .iface 66 (.pointer (some ⟨tb, 0, none⟩))] w fun e w' => e = .returned (.bool true) ∧ Mod [tb] w w' ∧ Blk w' tb #[.pointer (some ⟨b, 0, none⟩)] 62 := by
  have c0 := ht.cell 0
  simp only [List.getElem?_toArray, List.getElem?_cons_zero] at c0
  refine (as_hit ⟨b, 0, none⟩ ⟨tb, 0, none⟩ old w ha c0 (ht.free 0)).mono ?_
  rintro e w' ⟨rfl, rfl⟩
  refine ⟨rfl, ((((Mod.refl [tb] w).alloc _).alloc _).alloc _ |>.alloc _).setCell (Or.inl (by simp)) _, ?_⟩
  exact ((((ht.alloc _).alloc _).alloc _).alloc _).set 0 _

set_option maxRecDepth 100000 in
theorem flt_eq (c i c' i' : Int) (w : World) : (do eqGuard .eql 29 (.tmp 26) (.tmp 27) (.agg #[.int .i64 c, .int .i64 i]) (.agg #[.int .i64 c', .int .i64 i']); binOp .eql 29 (.agg #[.int .i64 c, .int .i64 i]) (.agg #[.int .i64 c', .int .i64 i']) : Sem Value).run Tryz.prog w = .ok (.bool (decide (c = c') && decide (i = i'))) w := by
  by_cases h1 : c = c' <;> by_cases h2 : i = i' <;> simp [go_sem, h1, h2]

set_option maxRecDepth 100000 in
set_option maxHeartbeats 4000000 in
theorem told_c (o : Option (Nat × Nat)) (v : Value) (w : World) (c' i' : Int) (h : ErrV o v w) (hw : WOk w) :
    Calls Tryz.prog 11 #[v, .agg #[.int .i64 c', .int .i64 i']] w fun e w' => e = .returned (.bool (toldB o c' i')) ∧ Mod [] w w' := by
  cases o with
  | none =>
    obtain rfl := h
    by_cases hc : c' = 0
    · subst hc
      go_enter Tryz.func11, Tryz.ntmps11
      go_wp2_with fail
      go_ret
      exact ⟨rfl, (Mod.refl [] w).alloc _⟩
    · go_enter Tryz.func11, Tryz.ntmps11
      go_wp2_with fail
      go_ret
      exact ⟨by simp [toldB, hc], (Mod.refl [] w).alloc _⟩
  | some p =>
    obtain ⟨c, i⟩ := p
    obtain ⟨b, rfl, hb⟩ := h
    by_cases hc : c' = 0
    · subst hc
      go_enter Tryz.func11, Tryz.ntmps11
      go_wp2_with fail
      go_ret
      exact ⟨rfl, (Mod.refl [] w).alloc _⟩
    · obtain ⟨X, hX⟩ : ∃ X, X = (w.alloc (.cells #[.int .i64 c', .int .i64 i'] 29)).alloc (.cells #[.pointer none] 62) := ⟨_, rfl⟩
      obtain ⟨fb, hfb⟩ : ∃ b, b = w.heap.size := ⟨_, rfl⟩
      obtain ⟨tb, htb⟩ : ∃ b, b = w.heap.size + 1 := ⟨_, rfl⟩
      have hmX : Mod [] w X := by rw [hX]; exact ((Mod.refl [] w).alloc _).alloc _
      have hz : (w.alloc (.cells #[.int .i64 c', .int .i64 i'] 29)).heap.size = tb := by rw [htb]; simp
      have hfX : Blk X fb #[.int .i64 c', .int .i64 i'] 29 := by rw [hX, hfb]; exact (Blk.new _ _ _).alloc _
      have htX : Blk X tb #[.pointer none] 62 := by rw [hX, ← hz]; exact Blk.new _ _ _
      have hbX := hmX.blk hb (by simp)
      have hbt : b ≠ tb := by have := hb.lt; omega
      have hft : fb ≠ tb := by omega
      have HMX := hid hmX
      have HA : Hid (∀ W, Mod [tb] X W → (∃ u, Blk W tb #[u] 62) → Calls Tryz.prog 26 #[.iface 62 (.pointer (some ⟨b, 0, none⟩)), .iface 66 (.pointer (some ⟨tb, 0, none⟩))] W fun e w' => e = .returned (.bool true) ∧ Mod [tb] W w' ∧ Blk w' tb #[.pointer (some ⟨b, 0, none⟩)] 62) := by
        rintro W hW ⟨u, hu⟩
        refine as_c b tb u W ?_ hu
        have h1 : Mod [tb] w W := hmX.any.trans hW (m := [tb]) (fun _ h _ => h) (fun _ h _ => h)
        have := hw.ty
        unfold AsOk at this ⊢
        exact h1.cellSome this (by
          have := hb.lt
          simp
          rcases Nat.eq_zero_or_pos tb with h | h
          · omega
          · omega)
      have HBX := hid hbX
      have HFX := hid hfX
      have HTX := hid htX
      have HI : Hid (∀ W, Mod [tb] X W → Calls Tryz.prog 27 #[.iface 62 (.pointer (some ⟨b, 0, none⟩)), .iface 27 (.int .i64 (c : Int))] W fun e w' => e = .returned (.bool true) ∧ w' = W) :=
        fun W hW => is_hit b c i W (hW.blk hbX (by simpa using hbt))
      have HX := hid hX
      have Hfb := hid hfb
      have Htb := hid htb
      clear hb hw hX hfb htb hz hfX htX hbX hmX
      go_enter Tryz.func11, Tryz.ntmps11
      go_wp2_with fail
      rw [← HX.out, ← Htb.out, ← Hfb.out]
      obtain ⟨d, hd⟩ : ∃ d : Bool, d = (decide ((c : Int) = c') && decide ((i : Int) = i')) := ⟨_, rfl⟩
      have HD := hid hd
      have HT : Hid (toldB (some (c, i)) c' i' = d) := by show _ = _; rw [hd]; simp [toldB, hc]
      clear hd
      rename_i K0 hK0
      refine wp_region_stepsG (by rfl) (by kernel_rfl) (fun W => Mod [tb] X W ∧ ∃ u, Blk W tb #[u] 62)
        (fun k v W => match k with
          | 0 => v = .iface 62 (.pointer (some ⟨b, 0, none⟩))
          | 1 => v = .iface 66 (.pointer (some ⟨tb, 0, none⟩))
          | 2 => v = .bool true ∧ Blk W tb #[.pointer (some ⟨b, 0, none⟩)] 62
          | 3 => v = .bool true ∧ Blk W tb #[.pointer (some ⟨b, 0, none⟩)] 62
          | 4 => v = .pointer (some ⟨b, 0, none⟩)
          | 5 => v = .pointer (some ⟨b, 0, none⟩)
          | 6 => v = .agg #[.int .i64 (c : Int), .int .i64 (i : Int)]
          | 7 => v = .agg #[.int .i64 c', .int .i64 i']
          | 8 => v = .bool d
          | 9 => v = .bool d
          | 10 => v = .bool d
          | 11 => d = true → v = .iface 62 (.pointer (some ⟨b, 0, none⟩))
          | 12 => d = true → v = .pointer (some ⟨fb, 0, none⟩)
          | 13 => d = true → v = .int .i64 c'
          | 14 => d = true → v = .iface 27 (.int .i64 c')
          | 15 => d = true → v = .bool true
          | 16 => v = .bool d
          | 17 => v = .bool d
          | _ => True) (fun _ _ => True) ?h0 trivial ?steps ?fin
      case h0 => exact ⟨(Mod.refl [tb] X).drew, _, HTX.out.drew⟩
      case steps =>
        refine ⟨?s0, ?s1, ?s2, ?s3, ?s4, ?s5, ?s6, ?s7, ?s8, ?s9, ?s10, ?s11, ?s12, ?s13, ?s14, ?s15, ?s16, ?s17, trivial⟩
        case s0 =>
          intro listed a W hR hJ hsz hun hall K hK
          rw [if_pos (wanted_none rfl)]
          have e1 : a.tmps[0]?.getD undef = _ := hR.old' 0 (by rfl)
          simp only [List.getElem?_toArray, List.getElem?_cons_zero, List.getElem?_cons_succ, Option.getD_some] at e1
          exact Oper.wp_value (.iface 62 (.pointer (some ⟨b, 0, none⟩))) (by simp [go_sem, e1]) (hK _ _ hR.world rfl (fun _ _ _ h => h) trivial)
        case s1 =>
          intro listed a W hR hJ hsz hun hall K hK
          rw [if_pos (wanted_none rfl)]
          have e1 : a.tmps[5]?.getD undef = _ := hR.old' 5 (by rfl)
          simp only [List.getElem?_toArray, List.getElem?_cons_zero, List.getElem?_cons_succ, Option.getD_some] at e1
          exact Oper.wp_value (.iface 66 (.pointer (some ⟨tb, 0, none⟩))) (by simp [go_sem, e1]) (hK _ _ hR.world rfl (fun _ _ _ h => h) trivial)
        case s2 =>
          intro listed a W hR hJ hsz hun hall K hK
          rw [if_pos (wanted_none rfl)]
          have e1 : a.tmps[20]?.getD undef = .iface 62 (.pointer (some ⟨b, 0, none⟩)) := hR.val 0 rfl rfl (hall ⟨0, .data⟩ (by simp) rfl)
          have e2 : a.tmps[21]?.getD undef = .iface 66 (.pointer (some ⟨tb, 0, none⟩)) := hR.val 1 rfl rfl (hall ⟨1, .data⟩ (by simp) rfl)
          obtain ⟨h1, h2⟩ := hR.world
          refine Oper.wp_call 26 #[.iface 62 (.pointer (some ⟨b, 0, none⟩)), .iface 66 (.pointer (some ⟨tb, 0, none⟩))] (by simp [go_sem, e1, e2]) (HA.out W h1 h2) ?_
          rintro e W' ⟨rfl, hm, hbk⟩
          exact hK _ _ ⟨h1.trans hm (fun _ h _ => h) (fun _ h _ => h), _, hbk⟩ ⟨rfl, hbk⟩ (fun j v hj h => match j, hj, h with
            | 0, _, h | 1, _, h | 4, _, h | 5, _, h | 6, _, h | 7, _, h | 8, _, h | 9, _, h | 10, _, h | 11, _, h | 12, _, h | 13, _, h | 14, _, h | 15, _, h | 16, _, h | 17, _, h => h
            | 3, _, h => ⟨h.1, hbk⟩
            | 2, hj, _ => absurd rfl hj
            | _ + 18, _, h => h) trivial
        case s3 =>
          intro listed a W hR hJ hsz hun hall K hK
          rw [if_pos (wanted_none rfl)]
          have e1 : a.tmps[22]?.getD undef = .bool true ∧ Blk W tb #[.pointer (some ⟨b, 0, none⟩)] 62 := hR.val 2 rfl rfl (hall ⟨2, .data⟩ (by simp) rfl)
          exact Oper.wp_value (.bool true) (by simp [go_sem, e1.1]) (hK _ _ hR.world ⟨rfl, e1.2⟩ (fun _ _ _ h => h) trivial)
        case s4 =>
          intro listed a W hR hJ hsz hun hall K hK
          have g3 : a.tmps[23]?.getD undef = .bool true ∧ Blk W tb #[.pointer (some ⟨b, 0, none⟩)] 62 := hR.val 3 rfl rfl (hall ⟨3, .guard⟩ (by simp) rfl)
          rw [if_pos (by rw [wanted_of rfl rfl rfl g3.1]; rfl)]
          have e1 : a.tmps[5]?.getD undef = _ := hR.old' 5 (by rfl)
          simp only [List.getElem?_toArray, List.getElem?_cons_zero, List.getElem?_cons_succ, Option.getD_some] at e1
          have c0 := g3.2.cell 0
          simp only [List.getElem?_toArray, List.getElem?_cons_zero] at c0
          exact Oper.wp_value (.pointer (some ⟨b, 0, none⟩)) (by simp [go_sem, e1, c0]) (hK _ _ hR.world rfl (fun _ _ _ h => h) trivial)
        case s5 =>
          intro listed a W hR hJ hsz hun hall K hK
          have g3 : a.tmps[23]?.getD undef = .bool true ∧ Blk W tb #[.pointer (some ⟨b, 0, none⟩)] 62 := hR.val 3 rfl rfl (hall ⟨3, .guard⟩ (by simp) rfl)
          rw [if_pos (by rw [wanted_of rfl rfl rfl g3.1]; rfl)]
          have e1 : a.tmps[24]?.getD undef = .pointer (some ⟨b, 0, none⟩) := hR.val 4 rfl rfl (hall ⟨4, .data⟩ (by simp) rfl)
          exact Oper.wp_value (.pointer (some ⟨b, 0, none⟩)) (by simp [go_sem, e1]) (hK _ _ hR.world rfl (fun _ _ _ h => h) trivial)
        case s6 =>
          intro listed a W hR hJ hsz hun hall K hK
          have g3 : a.tmps[23]?.getD undef = .bool true ∧ Blk W tb #[.pointer (some ⟨b, 0, none⟩)] 62 := hR.val 3 rfl rfl (hall ⟨3, .guard⟩ (by simp) rfl)
          rw [if_pos (by rw [wanted_of rfl rfl rfl g3.1]; rfl)]
          have e1 : a.tmps[25]?.getD undef = .pointer (some ⟨b, 0, none⟩) := hR.val 5 rfl rfl (hall ⟨5, .data⟩ (by simp) rfl)
          have hq := hR.world.1.blk HBX.out (by simpa using hbt)
          have c0 := hq.cell 0
          have c1 := hq.cell 1
          simp only [List.getElem?_toArray, List.getElem?_cons_zero, List.getElem?_cons_succ] at c0 c1
          exact Oper.wp_value (.agg #[.int .i64 (c : Int), .int .i64 (i : Int)]) (by simp [go_sem, e1, c0, c1]) (hK _ _ hR.world rfl (fun _ _ _ h => h) trivial)
        case s7 =>
          intro listed a W hR hJ hsz hun hall K hK
          have g3 : a.tmps[23]?.getD undef = .bool true ∧ Blk W tb #[.pointer (some ⟨b, 0, none⟩)] 62 := hR.val 3 rfl rfl (hall ⟨3, .guard⟩ (by simp) rfl)
          rw [if_pos (by rw [wanted_of rfl rfl rfl g3.1]; rfl)]
          have e1 : a.tmps[3]?.getD undef = _ := hR.old' 3 (by rfl)
          simp only [List.getElem?_toArray, List.getElem?_cons_zero, List.getElem?_cons_succ, Option.getD_some] at e1
          have hq := hR.world.1.blk HFX.out (by simpa using hft)
          have c0 := hq.cell 0
          have c1 := hq.cell 1
          simp only [List.getElem?_toArray, List.getElem?_cons_zero, List.getElem?_cons_succ] at c0 c1
          exact Oper.wp_value (.agg #[.int .i64 c', .int .i64 i']) (by simp [go_sem, e1, c0, c1]) (hK _ _ hR.world rfl (fun _ _ _ h => h) trivial)
        case s8 =>
          intro listed a W hR hJ hsz hun hall K hK
          have g3 : a.tmps[23]?.getD undef = .bool true ∧ Blk W tb #[.pointer (some ⟨b, 0, none⟩)] 62 := hR.val 3 rfl rfl (hall ⟨3, .guard⟩ (by simp) rfl)
          rw [if_pos (by rw [wanted_of rfl rfl rfl g3.1]; rfl)]
          have e1 : a.tmps[26]?.getD undef = .agg #[.int .i64 (c : Int), .int .i64 (i : Int)] := hR.val 6 rfl rfl (hall ⟨6, .data⟩ (by simp) rfl)
          have e2 : a.tmps[27]?.getD undef = .agg #[.int .i64 c', .int .i64 i'] := hR.val 7 rfl rfl (hall ⟨7, .data⟩ (by simp) rfl)
          have hq := flt_eq (c : Int) (i : Int) c' i' W
          refine Oper.wp_value (.bool d) ?_ (hK _ _ hR.world rfl (fun _ _ _ h => h) trivial)
          rw [HD.out]
          have r1 : a.eval (.tmp 26) = .agg #[.int .i64 (c : Int), .int .i64 (i : Int)] := by simpa [Act.eval, Array.getD_eq_getD_getElem?] using e1
          have r2 : a.eval (.tmp 27) = .agg #[.int .i64 c', .int .i64 i'] := by simpa [Act.eval, Array.getD_eq_getD_getElem?] using e2
          unfold execOp
          simp only [r1, r2]
          simp only [Sem.run_bind] at hq ⊢
          rw [hq]
          rfl
        case s9 =>
          intro listed a W hR hJ hsz hun hall K hK
          rw [if_pos (wanted_none rfl)]
          have e1 : a.tmps[23]?.getD undef = .bool true ∧ Blk W tb #[.pointer (some ⟨b, 0, none⟩)] 62 := hR.val 3 rfl rfl (hall ⟨3, .data⟩ (by simp) rfl)
          have e2 : a.tmps[28]?.getD undef = .bool d := hR.val 8 rfl rfl (hall ⟨8, .data⟩ (by simp) rfl)
          exact Oper.wp_value (.bool d) (by simp [go_sem, e1.1, e2]) (hK _ _ hR.world rfl (fun _ _ _ h => h) trivial)
        case s10 =>
          intro listed a W hR hJ hsz hun hall K hK
          rw [if_pos (wanted_none rfl)]
          have e1 : a.tmps[29]?.getD undef = .bool d := hR.val 9 rfl rfl (hall ⟨9, .data⟩ (by simp) rfl)
          exact Oper.wp_value (.bool d) (by simp [go_sem, e1]) (hK _ _ hR.world rfl (fun _ _ _ h => h) trivial)
        case s11 =>
          intro listed a W hR hJ hsz hun hall K hK
          have g10 : a.tmps[30]?.getD undef = .bool d := hR.val 10 rfl rfl (hall ⟨10, .guard⟩ (by simp) rfl)
          cases hd : d with
          | false =>
            rw [hd] at g10
            rw [if_neg (by rw [wanted_of rfl rfl rfl g10]; decide)]
            exact hK undef _ hR.world (by intro h; rw [hd] at h; cases h) (fun _ _ _ h => h) trivial
          | true =>
            rw [hd] at g10
            rw [if_pos (by rw [wanted_of rfl rfl rfl g10]; rfl)]
            have e1 : a.tmps[0]?.getD undef = _ := hR.old' 0 (by rfl)
            simp only [List.getElem?_toArray, List.getElem?_cons_zero, List.getElem?_cons_succ, Option.getD_some] at e1
            exact Oper.wp_value (.iface 62 (.pointer (some ⟨b, 0, none⟩))) (by simp [go_sem, e1]) (hK _ _ hR.world (fun _ => rfl) (fun _ _ _ h => h) trivial)
        case s12 =>
          intro listed a W hR hJ hsz hun hall K hK
          have g10 : a.tmps[30]?.getD undef = .bool d := hR.val 10 rfl rfl (hall ⟨10, .guard⟩ (by simp) rfl)
          cases hd : d with
          | false =>
            rw [hd] at g10
            rw [if_neg (by rw [wanted_of rfl rfl rfl g10]; decide)]
            exact hK undef _ hR.world (by intro h; rw [hd] at h; cases h) (fun _ _ _ h => h) trivial
          | true =>
            rw [hd] at g10
            rw [if_pos (by rw [wanted_of rfl rfl rfl g10]; rfl)]
            have e1 : a.tmps[3]?.getD undef = _ := hR.old' 3 (by rfl)
            simp only [List.getElem?_toArray, List.getElem?_cons_zero, List.getElem?_cons_succ, Option.getD_some] at e1
            exact Oper.wp_value (.pointer (some ⟨fb, 0, none⟩)) (by simp [go_sem, e1]) (hK _ _ hR.world (fun _ => rfl) (fun _ _ _ h => h) trivial)
        case s13 =>
          intro listed a W hR hJ hsz hun hall K hK
          have g10 : a.tmps[30]?.getD undef = .bool d := hR.val 10 rfl rfl (hall ⟨10, .guard⟩ (by simp) rfl)
          cases hd : d with
          | false =>
            rw [hd] at g10
            rw [if_neg (by rw [wanted_of rfl rfl rfl g10]; decide)]
            exact hK undef _ hR.world (by intro h; rw [hd] at h; cases h) (fun _ _ _ h => h) trivial
          | true =>
            rw [hd] at g10
            rw [if_pos (by rw [wanted_of rfl rfl rfl g10]; rfl)]
            have e1 : d = true → a.tmps[32]?.getD undef = .pointer (some ⟨fb, 0, none⟩) := hR.val 12 rfl rfl (hall ⟨12, .data⟩ (by simp) rfl)
            replace e1 := e1 hd
            have hq := hR.world.1.blk HFX.out (by simpa using hft)
            have c0 := hq.cell 0
            simp only [List.getElem?_toArray, List.getElem?_cons_zero, List.getElem?_cons_succ] at c0
            exact Oper.wp_value (.int .i64 c') (by simp [go_sem, e1, c0]) (hK _ _ hR.world (fun _ => rfl) (fun _ _ _ h => h) trivial)
        case s14 =>
          intro listed a W hR hJ hsz hun hall K hK
          have g10 : a.tmps[30]?.getD undef = .bool d := hR.val 10 rfl rfl (hall ⟨10, .guard⟩ (by simp) rfl)
          cases hd : d with
          | false =>
            rw [hd] at g10
            rw [if_neg (by rw [wanted_of rfl rfl rfl g10]; decide)]
            exact hK undef _ hR.world (by intro h; rw [hd] at h; cases h) (fun _ _ _ h => h) trivial
          | true =>
            rw [hd] at g10
            rw [if_pos (by rw [wanted_of rfl rfl rfl g10]; rfl)]
            have e1 : d = true → a.tmps[33]?.getD undef = .int .i64 c' := hR.val 13 rfl rfl (hall ⟨13, .data⟩ (by simp) rfl)
            replace e1 := e1 hd
            exact Oper.wp_value (.iface 27 (.int .i64 c')) (by simp [go_sem, e1]) (hK _ _ hR.world (fun _ => rfl) (fun _ _ _ h => h) trivial)
        case s15 =>
          intro listed a W hR hJ hsz hun hall K hK
          have g10 : a.tmps[30]?.getD undef = .bool d := hR.val 10 rfl rfl (hall ⟨10, .guard⟩ (by simp) rfl)
          cases hd : d with
          | false =>
            rw [hd] at g10
            rw [if_neg (by rw [wanted_of rfl rfl rfl g10]; decide)]
            exact hK undef _ hR.world (by intro h; rw [hd] at h; cases h) (fun _ _ _ h => h) trivial
          | true =>
            rw [hd] at g10
            rw [if_pos (by rw [wanted_of rfl rfl rfl g10]; rfl)]
            have e1 : d = true → a.tmps[31]?.getD undef = .iface 62 (.pointer (some ⟨b, 0, none⟩)) := hR.val 11 rfl rfl (hall ⟨11, .data⟩ (by simp) rfl)
            replace e1 := e1 hd
            have e2 : d = true → a.tmps[34]?.getD undef = .iface 27 (.int .i64 c') := hR.val 14 rfl rfl (hall ⟨14, .data⟩ (by simp) rfl)
            replace e2 := e2 hd
            have hcc : (c : Int) = c' := by have h := HD.out; rw [hd] at h; simp at h; exact h.1
            rw [← hcc] at e2
            refine Oper.wp_call 27 #[.iface 62 (.pointer (some ⟨b, 0, none⟩)), .iface 27 (.int .i64 (c : Int))] (by simp [go_sem, e1, e2]) (HI.out W hR.world.1) ?_
            rintro e W' ⟨rfl, rfl⟩
            exact hK _ _ hR.world (fun _ => rfl) (fun _ _ _ h => h) trivial
        case s16 =>
          intro listed a W hR hJ hsz hun hall K hK
          rw [if_pos (wanted_none rfl)]
          have e1 : a.tmps[30]?.getD undef = .bool d := hR.val 10 rfl rfl (hall ⟨10, .data⟩ (by simp) rfl)
          have e2 : d = true → a.tmps[35]?.getD undef = .bool true := hR.val 15 rfl rfl (hall ⟨15, .data⟩ (by simp) rfl)
          cases hd : d with
          | false =>
            rw [hd] at e1
            exact Oper.wp_value (.bool false) (by simp [go_sem, e1]) (hK _ _ hR.world (show Value.bool false = Value.bool d by rw [hd]) (fun _ _ _ h => h) trivial)
          | true =>
            rw [hd] at e1
            have e2 := e2 hd
            exact Oper.wp_value (.bool true) (by simp [go_sem, e1, e2]) (hK _ _ hR.world (show Value.bool true = Value.bool d by rw [hd]) (fun _ _ _ h => h) trivial)
        case s17 =>
          intro listed a W hR hJ hsz hun hall K hK
          rw [if_pos (wanted_none rfl)]
          have e1 : a.tmps[36]?.getD undef = .bool d := hR.val 16 rfl rfl (hall ⟨16, .data⟩ (by simp) rfl)
          exact Oper.wp_value (.bool d) (by simp [go_sem, e1]) (hK _ _ hR.world rfl (fun _ _ _ h => h) trivial)
      case fin =>
        intro listed a W hR hl
        have e4 : a.tmps[4]?.getD undef = .bool d := hR.val 17 rfl rfl (hl 17 (by decide))
        have hd : a.defers = [] := hR.defers
        have hm : Mod [tb] X W := hR.world.1
        refine hK0 _ _ (wp_ret ?_)
        show bodyPost Tryz.prog Tryz.f11 (fun e w' => e = .returned (.bool (toldB (some (c, i)) c' i')) ∧ Mod [] w w') Exit.ret a W
        refine bodyPost_ret (v := .bool d) (by simp [results, Tryz.results11, go_sem, e4]) hd ⟨by rw [HT.out], HMX.out.trans hm (fun _ h _ => h) (fun x hx hlt => by simp at hx; have := Htb.out; omega)⟩
end
end Go.Proofs.YtibhkldnimfnkaaGreatDoor

/- Script: the laws' same, call, wrong. -/
namespace Go.Proofs.YtibhkldnimfnkaaGreatDoor
section
set_option linter.unusedVariables false
set_option linter.unusedSimpArgs false
set_option linter.unusedSectionVars false
open Go.RowKit

set_option maxRecDepth 100000 in
set_option maxHeartbeats 2000000 in
theorem st_neq (x y : St) (p q : Operand) (w : World) : (do eqGuard .neq 46 p q (stF x) (stF y); binOp .neq 46 (stF x) (stF y) : Sem Value).run Tryz.prog w = .ok (.bool (!decide (x = y))) w := by
  have hne : ∀ {α : Type} (f : St → α), f x ≠ f y → decide (x = y) = false := fun f h => decide_eq_false (fun e => h (by rw [e]))
  by_cases h1 : x.kind = y.kind
  · by_cases h2 : x.a = y.a
    · by_cases h3 : x.b = y.b
      · by_cases h4 : x.ck = y.ck
        · by_cases h5 : (x.ts : Int) = (y.ts : Int)
          · by_cases h6 : x.key = y.key
            · by_cases h7 : x.hi = y.hi
              · by_cases h8 : x.val = y.val
                · rw [st_ext h1 h2 h3 h4 h5 h6 h7 h8]
                  simp [go_sem]
                · rw [hne (·.val) h8]
                  simp [go_sem, h1, h2, h3, h4, h5, h6, h7, h8]
              · rw [hne (·.hi) h7]
                simp [go_sem, h1, h2, h3, h4, h5, h6, h7]
            · rw [hne (·.key) h6]
              simp [go_sem, h1, h2, h3, h4, h5, h6]
          · rw [hne (fun s => (s.ts : Int)) h5]
            simp [go_sem, h1, h2, h3, h4, h5]
        · rw [hne (·.ck) h4]
          simp [go_sem, h1, h2, h3, h4]
      · rw [hne (·.b) h3]
        simp [go_sem, h1, h2, h3]
    · rw [hne (·.a) h2]
      simp [go_sem, h1, h2]
  · rw [hne (·.kind) h1]
    simp [go_sem, h1]

theorem drop_eq {α : Type} [DecidableEq α] {l m : List α} {j : Nat} {x y : α} (hx : l[j]? = some x) (hy : m[j]? = some y) : decide (l.drop j = m.drop j) = (decide (x = y) && decide (l.drop (j + 1) = m.drop (j + 1))) := by
  rw [drop_at hx, drop_at hy]
  simp

set_option maxRecDepth 100000 in
set_option maxHeartbeats 2000000 in
theorem same_c (l m : List St) (v v' : Value) (w : World) (hv : StsV w v l) (hv' : StsV w v' m) :
    Calls Tryz.prog 17 #[v, v'] w fun e w' => e = .returned (.bool (decide (l = m))) ∧ Mod [] w w' := by
  have HV := hid hv
  have HV' := hid hv'
  obtain ⟨a, cap, rfl, hl63, _⟩ := hv
  obtain ⟨a', cap', rfl, hm63, _⟩ := hv'
  by_cases hlen : l.length = m.length
  · have g0 : ((l.length : Nat) : Int) = ((m.length : Nat) : Int) := by omega
    have Hlen := hid hlen
    clear hlen
    go_enter Tryz.func17, Tryz.ntmps17
    go_wp2_with fail
    go_loopg [5] l.length (fun g i wr => ∃ j : Nat, i = .int .i64 j ∧ j + g = l.length ∧ Hid (decide (l = m) = decide (l.drop j = m.drop j)) ∧ Hid (Mod [] w wr))
    · exact ⟨0, rfl, by omega, hid rfl, hid (Mod.refl _ _)⟩
    · obtain ⟨j, rfl, hj, hA, hM⟩ := hrel
      by_cases hlt : j < l.length
      · obtain ⟨x, hx⟩ : ∃ x, l[j]? = some x := ⟨_, List.getElem?_eq_getElem hlt⟩
        obtain ⟨y, hy⟩ : ∃ y, m[j]? = some y := ⟨_, List.getElem?_eq_getElem (by have := Hlen.out; omega)⟩
        have hj0 : (0 : Int) ≤ (j : Int) := by omega
        have hj1 : (j : Int) < (l.length : Int) := by omega
        have HA1 : Hid (decide (l = m) = (decide (x = y) && decide (l.drop (j + 1) = m.drop (j + 1)))) := by show _ = _; rw [hA.out, drop_eq hx hy]
        have HX := hid hx
        have HY := hid hy
        obtain ⟨b, off, rfl, _⟩ := HV.out.at hx
        obtain ⟨b', off', rfl, _⟩ := HV'.out.at hy
        clear hA hx hy
        go_wp2_with fail
        have hlt2 : j < m.length := by have := Hlen.out; omega
        obtain ⟨d, hd⟩ : ∃ d : Bool, d = !decide (x = y) := ⟨_, rfl⟩
        have Hd := hid hd
        clear hd
        refine wp_region_steps (by rfl) (by kernel_rfl) (fun W => Mod [] wr W)
          (fun k v W => match k with
            | 0 => v = .slice (some ⟨b, off, none⟩) l.length cap
            | 1 => v = .int .i64 (j : Int)
            | 2 => v = .pointer (some ⟨b, off + j * 8, none⟩)
            | 3 => v = stF x
            | 4 => v = .slice (some ⟨b', off', none⟩) m.length cap'
            | 5 => v = .int .i64 (j : Int)
            | 6 => v = .pointer (some ⟨b', off' + j * 8, none⟩)
            | 7 => v = stF y
            | 8 => v = .bool d
            | _ => True) ?h0 ?steps ?fin
        case h0 => exact (Mod.refl [] wr).drew
        case steps =>
          refine ⟨?s0, ?s1, ?s2, ?s3, ?s4, ?s5, ?s6, ?s7, ?s8, trivial⟩
          case s0 =>
            intro listed a W hR hall K hK
            have e1 : a.tmps[0]?.getD undef = _ := hR.old' 0 (by rfl)
            simp only [List.getElem?_toArray, List.getElem?_cons_zero, List.getElem?_cons_succ, Option.getD_some] at e1
            exact Oper.wp_value (.slice (some ⟨b, off, none⟩) l.length cap) (by simp [go_sem, e1]) (hK _ _ hR.world rfl (fun _ _ _ h => h))
          case s1 =>
            intro listed a W hR hall K hK
            have e1 : a.tmps[5]?.getD undef = _ := hR.old' 5 (by rfl)
            simp only [List.getElem?_toArray, List.getElem?_cons_zero, List.getElem?_cons_succ, Option.getD_some] at e1
            exact Oper.wp_value (.int .i64 (j : Int)) (by simp [go_sem, e1]) (hK _ _ hR.world rfl (fun _ _ _ h => h))
          case s2 =>
            intro listed a W hR hall K hK
            have e1 : a.tmps[17]?.getD undef = .slice (some ⟨b, off, none⟩) l.length cap := hR.val 0 rfl rfl (hall ⟨0, .data⟩ (by simp) rfl)
            have e2 : a.tmps[18]?.getD undef = .int .i64 (j : Int) := hR.val 1 rfl rfl (hall ⟨1, .data⟩ (by simp) rfl)
            exact Oper.wp_value (.pointer (some ⟨b, off + j * 8, none⟩)) (by simp [go_sem, e1, e2, hlt]) (hK _ _ hR.world rfl (fun _ _ _ h => h))
          case s3 =>
            intro listed a W hR hall K hK
            have e1 : a.tmps[19]?.getD undef = .pointer (some ⟨b, off + j * 8, none⟩) := hR.val 2 rfl rfl (hall ⟨2, .data⟩ (by simp) rfl)
            obtain ⟨b2, off2, e0, c0, c1, c2, c3, c4, c5, c6, c7⟩ := (HV.out.mod (hM.out.tr hR.world)).at HX.out
            cases e0
            exact Oper.wp_value (stF x) (by simp [go_sem, e1, c0, c1, c2, c3, c4, c5, c6, c7]) (hK _ _ hR.world rfl (fun _ _ _ h => h))
          case s4 =>
            intro listed a W hR hall K hK
            have e1 : a.tmps[1]?.getD undef = _ := hR.old' 1 (by rfl)
            simp only [List.getElem?_toArray, List.getElem?_cons_zero, List.getElem?_cons_succ, Option.getD_some] at e1
            exact Oper.wp_value (.slice (some ⟨b', off', none⟩) m.length cap') (by simp [go_sem, e1]) (hK _ _ hR.world rfl (fun _ _ _ h => h))
          case s5 =>
            intro listed a W hR hall K hK
            have e1 : a.tmps[5]?.getD undef = _ := hR.old' 5 (by rfl)
            simp only [List.getElem?_toArray, List.getElem?_cons_zero, List.getElem?_cons_succ, Option.getD_some] at e1
            exact Oper.wp_value (.int .i64 (j : Int)) (by simp [go_sem, e1]) (hK _ _ hR.world rfl (fun _ _ _ h => h))
          case s6 =>
            intro listed a W hR hall K hK
            have e1 : a.tmps[21]?.getD undef = .slice (some ⟨b', off', none⟩) m.length cap' := hR.val 4 rfl rfl (hall ⟨4, .data⟩ (by simp) rfl)
            have e2 : a.tmps[22]?.getD undef = .int .i64 (j : Int) := hR.val 5 rfl rfl (hall ⟨5, .data⟩ (by simp) rfl)
            exact Oper.wp_value (.pointer (some ⟨b', off' + j * 8, none⟩)) (by simp [go_sem, e1, e2, hlt2]) (hK _ _ hR.world rfl (fun _ _ _ h => h))
          case s7 =>
            intro listed a W hR hall K hK
            have e1 : a.tmps[23]?.getD undef = .pointer (some ⟨b', off' + j * 8, none⟩) := hR.val 6 rfl rfl (hall ⟨6, .data⟩ (by simp) rfl)
            obtain ⟨b2, off2, e0, c0, c1, c2, c3, c4, c5, c6, c7⟩ := (HV'.out.mod (hM.out.tr hR.world)).at HY.out
            cases e0
            exact Oper.wp_value (stF y) (by simp [go_sem, e1, c0, c1, c2, c3, c4, c5, c6, c7]) (hK _ _ hR.world rfl (fun _ _ _ h => h))
          case s8 =>
            intro listed a W hR hall K hK
            have e1 : a.tmps[20]?.getD undef = stF x := hR.val 3 rfl rfl (hall ⟨3, .data⟩ (by simp) rfl)
            have e2 : a.tmps[24]?.getD undef = stF y := hR.val 7 rfl rfl (hall ⟨7, .data⟩ (by simp) rfl)
            have hq := st_neq x y (.tmp 20) (.tmp 24) W
            refine Oper.wp_value (.bool d) ?_ (hK _ _ hR.world rfl (fun _ _ _ h => h))
            rw [Hd.out]
            have r1 : a.eval (.tmp 20) = stF x := by simpa [Act.eval, Array.getD_eq_getD_getElem?] using e1
            have r2 : a.eval (.tmp 24) = stF y := by simpa [Act.eval, Array.getD_eq_getD_getElem?] using e2
            unfold execOp
            simp only [r1, r2]
            simp only [Sem.run_bind] at hq ⊢
            rw [hq]
            rfl
        case fin =>
          intro listed a W hR hl
          have e25 : a.tmps.getD 25 undef = .bool d := by rw [Array.getD_eq_getD_getElem?]; exact hR.val 8 rfl rfl (hl 8 (by decide))
          have HMW := hid (hM.out.tr hR.world)
          have hfr := hR.frame
          clear hR hl
          simp only [List.filterMap_cons, List.filterMap_nil, List.foldl_cons, List.foldl_nil, List.setIfInBounds_toArray, List.set_cons_succ, List.set_cons_zero, e25] at hfr
          generalize a.tmps.getD 17 undef = v17 at hfr
          generalize a.tmps.getD 18 undef = v18 at hfr
          generalize a.tmps.getD 19 undef = v19 at hfr
          generalize a.tmps.getD 20 undef = v20 at hfr
          generalize a.tmps.getD 21 undef = v21 at hfr
          generalize a.tmps.getD 22 undef = v22 at hfr
          generalize a.tmps.getD 23 undef = v23 at hfr
          generalize a.tmps.getD 24 undef = v24 at hfr
          rw [hfr]
          clear hfr e25
          cases d with
          | true =>
            have hxy : decide (x = y) = false := by have := Hd.out; simpa using this
            have HD : Hid (decide (l = m) = false) := by show _ = _; rw [HA1.out, hxy]; rfl
            clear hxy
            go_wp2_with fail
            go_ret
            refine ⟨?_, HMW.out⟩
            rw [HD.out]
            rfl
          | false =>
            have hxy : decide (x = y) = true := by have := Hd.out; simpa using this
            have HD : Hid (decide (l = m) = decide (l.drop (j + 1) = m.drop (j + 1))) := by show _ = _; rw [HA1.out, hxy]; rfl
            clear hxy
            go_wp2
            go_roundg (gk - 1)
            case measure => omega
            case rel => exact ⟨j + 1, by go_num, by omega, HD, HMW⟩
      · obtain rfl : j = l.length := by omega
        have HD : Hid (decide (l = m) = true) := by show _ = _; rw [hA.out, List.drop_length, Hlen.out, List.drop_length]; simp
        go_wp2_with fail
        go_ret
        refine ⟨?_, hM.out⟩
        rw [HD.out]
        rfl
  · have g0 : ¬ ((l.length : Nat) : Int) = ((m.length : Nat) : Int) := by omega
    have HD : Hid (decide (l = m) = false) := decide_eq_false (fun e => hlen (by rw [e]))
    clear hlen
    go_enter Tryz.func17, Tryz.ntmps17
    go_wp2_with fail
    go_ret
    refine ⟨?_, Mod.refl _ _⟩
    rw [HD.out]
    rfl

theorem flat_st : ∀ (l : List St) (i : Nat) (x : St), l[i]? = some x → ∀ j, j < 8 → (flat stC l)[i * 8 + j]? = (stC x)[j]?
  | [], i, x, h => by simp at h
  | y :: l, i, x, h => by
    intro j hj
    have e : flat stC (y :: l) = stC y ++ flat stC l := rfl
    rw [e]
    cases i with
    | zero =>
      simp at h
      subst h
      rw [Nat.zero_mul, Nat.zero_add, List.getElem?_append_left (by simpa [stC] using hj)]
    | succ i =>
      simp at h
      rw [List.getElem?_append_right (by simp [stC]; omega), ← flat_st l i x h j hj]
      congr 1
      simp [stC]
      omega
set_option maxRecDepth 100000 in
theorem call_c (k : Int) (ts : Nat) (key hi val : Bs) (w : World) :
    Calls Tryz.prog 19 #[.int .i64 k, .int .u64 (ts : Int), .string (str key), .string (str hi), .string (str val)] w fun e w' => e = .returned (stF ⟨10, 0, 0, k, ts, key, hi, val⟩) ∧ Mod [] w w' := by
  go_enter Tryz.func19, Tryz.ntmps19
  go_wp2_with fail
  have hb : Blk (w.alloc (.cells (stA ⟨10, 0, 0, k, ts, key, hi, val⟩) 46)) w.heap.size (stA ⟨10, 0, 0, k, ts, key, hi, val⟩) 46 := Blk.new _ _ _
  obtain ⟨c0, c1, c2, c3, c4, c5, c6, c7⟩ := st_cells hb
  exact bodyPost_ret (v := stF ⟨10, 0, 0, k, ts, key, hi, val⟩) (by simp [results, Tryz.results19, go_sem]) rfl ⟨rfl, (Mod.refl [] w).alloc _⟩

/-- Is a text that fault? -/
def wrongB (s : Bs) (c' i' : Int) : Bool := match parseL s with
  | .inl l => l.isEmpty && decide (c' = 0)
  | .inr (c, i) => toldB (some (c, i)) c' i'
/-- What Parse hands out, as values: the list, and the error. -/
theorem ParseG.opened {s : Bs} {w w' : World} {e : Ending} (h : ParseG (parseL s) w e w') : Mod [] w w' ∧ ∃ v v' l, e = .returned (.tuple #[v, v']) ∧ StsV w' v l ∧ (∃ a cap, v = .slice a l.length cap) ∧
    ((parseL s = .inl l ∧ v' = .nilIface) ∨ ∃ c i, parseL s = .inr (c, i) ∧ l = [] ∧ ErrV (some (c, i)) v' w') := by
  obtain ⟨hm, h⟩ := h
  refine ⟨hm, ?_⟩
  cases hp : parseL s with
  | inl l =>
    rw [hp] at h
    obtain ⟨v, L, he, ho, _⟩ := h
    obtain ⟨a, cap, e1, h1, h2, h3⟩ := ho.val
    refine ⟨v, .nilIface, l, he, ⟨a, cap, e1, ho.len, ?_⟩, ⟨a, cap, e1⟩, .inl ⟨rfl, rfl⟩⟩
    cases l with
    | nil => exact .inl rfl
    | cons x l =>
      obtain ⟨g, rfl, _, hc⟩ := h3 (by simp)
      refine .inr ⟨g, 0, rfl, fun i y hy j u hj => ?_⟩
      have hi := (List.getElem?_eq_some_iff.1 hy).1
      have hj8 : j < 8 := by
        have := (List.getElem?_eq_some_iff.1 hj).1
        simpa [stC] using this
      rw [Nat.zero_add, hc (i * 8 + j) (by omega)]
      exact (flat_st _ i y hy j hj8).trans hj
  | inr p =>
    obtain ⟨c, i⟩ := p
    rw [hp] at h
    obtain ⟨b, he, _, hb⟩ := h
    exact ⟨_, _, [], he, ⟨none, 0, rfl, by simp, .inl rfl⟩, ⟨none, 0, rfl⟩, .inr ⟨c, i, rfl, rfl, b, rfl, hb⟩⟩

set_option maxRecDepth 100000 in
set_option maxHeartbeats 1000000 in
theorem wrong_c (s : Bs) (c' i' : Int) (w : World) (hs : s.length < 1000000000) (hw : WOk w) :
    Calls Tryz.prog 18 #[.string (str s), .int .i64 c', .int .i64 i'] w fun e w' => e = .returned (.bool (wrongB s c' i')) ∧ Mod [] w w' := by
  have HW := hid hw
  have HP := hid (parse_c s w hs hw.mx)
  clear hw
  go_enter Tryz.func18, Tryz.ntmps18
  go_wp2_with fail
  refine HP.out.mono ?_
  intro e w1 hpg
  obtain ⟨hm, v, v', l, rfl, _, ⟨a, cap, rfl⟩, h⟩ := ParseG.opened hpg
  clear hpg
  have HM := hid hm
  rcases h with ⟨hp, rfl⟩ | ⟨c, i, hp, rfl, herr⟩
  · have HB : Hid (wrongB s c' i' = (l.isEmpty && decide (c' = 0))) := by show _ = _; unfold wrongB; rw [hp]
    cases l with
    | nil =>
      have HT := hid (told_c none .nilIface w1 c' i' rfl (HW.out.mod hm))
      clear hp hm
      go_wp2_with fail
      refine HT.out.mono ?_
      rintro e w2 ⟨rfl, hm2⟩
      have HM2 := hid (HM.out.tr hm2)
      clear hm2
      go_wp2_with fail
      go_ret
      refine ⟨?_, HM2.out⟩
      rw [HB.out]
      rfl
    | cons x l =>
      have hn : ¬ (((x :: l).length : Nat) : Int) = 0 := by simp; omega
      clear hp hm
      go_wp2_with fail
      go_ret
      refine ⟨?_, HM.out⟩
      rw [HB.out]
      rfl
  · have HB : Hid (wrongB s c' i' = toldB (some (c, i)) c' i') := by show _ = _; unfold wrongB; rw [hp]
    have HT := hid (told_c (some (c, i)) v' w1 c' i' herr (HW.out.mod hm))
    clear hp hm herr
    go_wp2_with fail
    refine HT.out.mono ?_
    rintro e w2 ⟨rfl, hm2⟩
    have HM2 := hid (HM.out.tr hm2)
    clear hm2
    go_wp2_with fail
    go_ret
    refine ⟨?_, HM2.out⟩
    rw [HB.out]
    rfl
end
end Go.Proofs.YtibhkldnimfnkaaGreatDoor

/- Script: works (printed by mkYY.py). -/
namespace Go.Proofs.YtibhkldnimfnkaaGreatDoor
section
set_option linter.unusedVariables false
set_option linter.unusedSimpArgs false
set_option linter.unusedSectionVars false
open Go.RowKit

theorem StsV.built {w : World} {b : Nat} {l : List St} (hb : Blk w b (flat stC l).toArray 46) (hl : l.length ≤ 9223372036854775807) : StsV w (.slice (some ⟨b, 0, none⟩) l.length l.length) l := by
  refine ⟨_, _, rfl, hl, ?_⟩
  refine .inr ⟨b, 0, rfl, fun i y hy j u hj => ?_⟩
  have hj8 : j < 8 := by
    have := (List.getElem?_eq_some_iff.1 hj).1
    simpa [stC] using this
  rw [Nat.zero_add, hb.cell, List.getElem?_toArray]
  exact (flat_st _ i y hy j hj8).trans hj
abbrev wk1 : List St := [⟨0, 3, 0, 0, 0, [], [], []⟩, ⟨10, 0, 0, 0, 0, [], [], []⟩, ⟨10, 0, 0, 3, 2, [107], [], [118]⟩]
abbrev wk2 : List St := [⟨8, 1, 5, 0, 0, [], [], []⟩, ⟨10, 0, 0, 2, 7, [], [122], []⟩]
set_option maxRecDepth 100000 in
theorem wk_parse : parseL [100, 101, 108, 105, 118, 101, 114, 32, 51, 10, 98, 101, 103, 105, 110, 32, 35, 32, 111, 110, 101, 10, 10, 119, 114, 105, 116, 101, 32, 50, 32, 32, 34, 107, 34, 32, 34, 118, 34] = .inl wk1 := by decide +kernel
set_option maxRecDepth 100000 in
theorem wk_print : printL wk2 = ([99, 114, 97, 115, 104, 32, 100, 99, 32, 53, 10, 115, 99, 97, 110, 32, 55, 32, 34, 34, 32, 34, 122, 34, 10], 0) := by decide +kernel

set_option maxRecDepth 100000 in
theorem wk_wrong0 : wrongB [102, 108, 121] 19 0 = true := by decide +kernel
set_option maxRecDepth 100000 in
theorem wk_wrong1 : wrongB [116, 105, 99, 107] 4 0 = true := by decide +kernel
set_option maxRecDepth 100000 in
theorem wk_wrong2 : wrongB [10, 116, 105, 99, 107, 32, 100, 98] 4 1 = true := by decide +kernel
set_option maxRecDepth 100000 in
theorem wk_wrong3 : wrongB [114, 101, 97, 100, 32, 48, 32, 34, 107, 34] 4 0 = true := by decide +kernel
set_option maxRecDepth 100000 in
theorem wk_wrong4 : wrongB [114, 101, 97, 100, 32, 49, 32, 107] 4 0 = true := by decide +kernel
theorem wk_ok : ∀ s ∈ wk2, StOk s := by
  intro s hs
  simp only [List.mem_cons, List.not_mem_nil, or_false] at hs
  rcases hs with rfl | rfl <;> exact ⟨by decide, by decide, by decide, by decide, by decide, by decide, by decide, by decide⟩

set_option maxRecDepth 100000 in
set_option maxHeartbeats 4000000 in
theorem works_c (w : World) (hw : WOk w) : Calls Tryz.prog 13 #[] w fun e w' => e = .returned (.bool true) ∧ Mod [] w w' := by
  have HW := hid hw
  clear hw
  go_enter Tryz.func13, Tryz.ntmps13
  go_wp2_with fail
  refine (show Calls Tryz.prog _ #[.string ⟨#[100, 101, 108, 105, 118, 101, 114, 32, 51, 10, 98, 101, 103, 105, 110, 32, 35, 32, 111, 110, 101, 10, 10, 119, 114, 105, 116, 101, 32, 50, 32, 32, 34, 107, 34, 32, 34, 118, 34]⟩] w _ from parse_c [100, 101, 108, 105, 118, 101, 114, 32, 51, 10, 98, 101, 103, 105, 110, 32, 35, 32, 111, 110, 101, 10, 10, 119, 114, 105, 116, 101, 32, 50, 32, 32, 34, 107, 34, 32, 34, 118, 34] w (by decide) HW.out.mx).mono ?_
  intro e w1 hpg
  obtain ⟨hm1, v, v', l, rfl, hsts, ⟨a, cap, rfl⟩, h⟩ := ParseG.opened hpg
  clear hpg
  obtain ⟨rfl, rfl⟩ : l = wk1 ∧ v' = .nilIface := by
    rcases h with ⟨hp, rfl⟩ | ⟨c, i, hp, _⟩
    · rw [wk_parse] at hp; cases hp; exact ⟨rfl, rfl⟩
    · rw [wk_parse] at hp; cases hp
  have HM1 := hid hm1
  have HS1 := hid hsts
  clear h hm1 hsts
  go_wp2_with fail
  refine (call_c 2 7 [] [122] [] w1).mono ?_
  rintro e w2 ⟨rfl, hm⟩
  have HM2 := hid (HM1.out.tr hm)
  have HS2 := hid (HS1.out.mod hm)
  clear hm HM1 HS1
  go_wp2_with fail
  have hmX : Mod [] w2 (w2.alloc (.cells (flat stC wk2).toArray 46)) := (Mod.refl [] w2).alloc _
  have hpr := print_c wk2 _ _ (StsV.built (l := wk2) (Blk.new w2 (flat stC wk2).toArray 46) (by decide)) wk_ok (HW.out.tab.mod (HM2.out.tr hmX) (by simp))
  rw [wk_print] at hpr
  have HPR := hid hpr
  have HM3 := hid (HM2.out.tr hmX)
  have HS3 := hid (HS2.out.mod hmX)
  clear hpr hmX HM2 HS2
  refine HPR.out.mono ?_
  rintro e w3 ⟨hm, rfl⟩
  have HM4 := hid (HM3.out.tr hm)
  have HS4 := hid (HS3.out.mod hm)
  clear hm HM3 HS3 HPR
  go_wp2_with fail
  refine (call_c 3 2 [107] [] [118] w3).mono ?_
  rintro e w4 ⟨rfl, hm⟩
  have HM5 := hid (HM4.out.tr hm)
  have HS5 := hid (HS4.out.mod hm)
  clear hm HM4 HS4
  go_wp2_with fail
  have hmX : Mod [] w4 (w4.alloc (.cells (flat stC wk1).toArray 46)) := (Mod.refl [] w4).alloc _
  have HSM := hid (same_c wk1 wk1 _ _ _ (HS5.out.mod hmX) (StsV.built (l := wk1) (Blk.new w4 (flat stC wk1).toArray 46) (by decide)))
  have HM6 := hid (HM5.out.tr hmX)
  clear hmX HM5 HS5
  refine HSM.out.mono ?_
  rintro e w5 ⟨rfl, hm⟩
  have HN0 := hid (HM6.out.tr hm)
  clear hm HM6 HSM
  rw [show decide (wk1 = wk1) = true from decide_eq_true rfl]
  go_wp2_with fail
  refine (show Calls Tryz.prog _ #[.string ⟨#[102, 108, 121]⟩, .int .i64 19, .int .i64 0] w5 _ from wrong_c [102, 108, 121] 19 0 w5 (by decide) (HW.out.mod HN0.out)).mono ?_
  rintro e v0 ⟨rfl, hm⟩
  have HN1 := hid (HN0.out.tr hm)
  clear hm
  rw [wk_wrong0]
  go_wp2_with fail
  refine (show Calls Tryz.prog _ #[.string ⟨#[116, 105, 99, 107]⟩, .int .i64 4, .int .i64 0] v0 _ from wrong_c [116, 105, 99, 107] 4 0 v0 (by decide) (HW.out.mod HN1.out)).mono ?_
  rintro e v1 ⟨rfl, hm⟩
  have HN2 := hid (HN1.out.tr hm)
  clear hm
  rw [wk_wrong1]
  go_wp2_with fail
  refine (show Calls Tryz.prog _ #[.string ⟨#[10, 116, 105, 99, 107, 32, 100, 98]⟩, .int .i64 4, .int .i64 1] v1 _ from wrong_c [10, 116, 105, 99, 107, 32, 100, 98] 4 1 v1 (by decide) (HW.out.mod HN2.out)).mono ?_
  rintro e v2 ⟨rfl, hm⟩
  have HN3 := hid (HN2.out.tr hm)
  clear hm
  rw [wk_wrong2]
  go_wp2_with fail
  refine (show Calls Tryz.prog _ #[.string ⟨#[114, 101, 97, 100, 32, 48, 32, 34, 107, 34]⟩, .int .i64 4, .int .i64 0] v2 _ from wrong_c [114, 101, 97, 100, 32, 48, 32, 34, 107, 34] 4 0 v2 (by decide) (HW.out.mod HN3.out)).mono ?_
  rintro e v3 ⟨rfl, hm⟩
  have HN4 := hid (HN3.out.tr hm)
  clear hm
  rw [wk_wrong3]
  go_wp2_with fail
  refine (show Calls Tryz.prog _ #[.string ⟨#[114, 101, 97, 100, 32, 49, 32, 107]⟩, .int .i64 4, .int .i64 0] v3 _ from wrong_c [114, 101, 97, 100, 32, 49, 32, 107] 4 0 v3 (by decide) (HW.out.mod HN4.out)).mono ?_
  rintro e v4 ⟨rfl, hm⟩
  have HN5 := hid (HN4.out.tr hm)
  clear hm
  rw [wk_wrong4]
  go_wp2_with fail
  go_ret
  exact ⟨rfl, HN5.out⟩
end
end Go.Proofs.YtibhkldnimfnkaaGreatDoor
