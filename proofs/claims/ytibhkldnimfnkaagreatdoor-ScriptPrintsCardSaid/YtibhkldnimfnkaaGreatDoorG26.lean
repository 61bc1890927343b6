/- Script: parts C2 CG C3 C4. -/
import Derived.Test.YtibhkldnimfnkaaGreatDoorG24

/- Script, the reference: a step, as it is printed. -/
namespace Go.Proofs.YtibhkldnimfnkaaGreatDoor
section
set_option linter.unusedVariables false
set_option linter.unusedSimpArgs false
set_option linter.unusedSectionVars false
open Go.RowKit

theorem prL_len (p : Pl) {s : St} (h : StOk s) : (printP p s).length ≤ 2000002 := by
  cases p with
  | nA lo hi => exact Nat.le_trans (digitsN_lf 20 _) (by decide)
  | nB lo hi => exact Nat.le_trans (digitsN_lf 20 _) (by decide)
  | ts => exact Nat.le_trans (digitsN_lf 20 _) (by decide)
  | who => show (if s.a % 2 = 0 then tcB else dcB).length ≤ _; split <;> decide
  | key lo => have := quote_len s.key; have := h.key; show (quoteL s.key).length ≤ _; omega
  | hi => have := quote_len s.hi; have := h.hi; show (quoteL s.hi).length ≤ _; omega
  | val => have := quote_len s.val; have := h.val; show (quoteL s.val).length ≤ _; omega
/-- The line so far. -/
def pre2 (r : Rw) (s : St) (j : Nat) : Bs := (r.pl.take j).foldl (fun o p => o ++ 32 :: printP p s) r.word
theorem pre2_succ (r : Rw) (s : St) (j : Nat) (p : Pl) (hp : r.pl[j]? = some p) : pre2 r s (j + 1) = pre2 r s j ++ 32 :: printP p s := by
  unfold pre2
  rw [List.take_add_one, hp, List.foldl_append]
  rfl
theorem pre2_all (r : Rw) (s : St) : pre2 r s r.pl.length = printR r s := by unfold pre2 printR; rw [List.take_length]
theorem pre2_len {r : Rw} (hr : r ∈ rowsL) {s : St} (h : StOk s) : ∀ j, j ≤ r.pl.length → (pre2 r s j).length ≤ 10 + j * 2000003 := by
  intro j
  induction j with
  | zero => intro _; have := List.all_eq_true.1 rows_len r hr; simp only [decide_eq_true_eq] at this; simp [pre2]; omega
  | succ j ih =>
    intro hj
    have h1 := ih (by omega)
    rw [pre2_succ r s j _ (List.getElem?_eq_getElem hj)]
    have h2 := prL_len r.pl[j] h
    simp only [List.length_append, List.length_cons]; omega
theorem wrap_u64_nat (n : Int) (h0 : 0 ≤ n) (h1 : n ≤ 9223372036854775807) : IntKind.u64.wrap n = (n.toNat : Int) := by rw [IntKind.wrap_u64]; omega

set_option maxRecDepth 100000 in
set_option maxHeartbeats 4000000 in
theorem printed_r (s : St) (r : Rw) (hr : r ∈ rowsL) (w : World) (hs : StOk s) :
    Calls Tryz.prog 56 #[stF s, rrV r] w fun e w' => e = .returned (.string (str (printR r s))) ∧ Mod [] w w' := by
  obtain ⟨sb, hsb⟩ : ∃ b, b = w.heap.size := ⟨_, rfl⟩
  obtain ⟨rb, hrb⟩ : ∃ b, b = w.heap.size + 1 := ⟨_, rfl⟩
  obtain ⟨ab, hab⟩ : ∃ b, b = w.heap.size + 1 + 1 := ⟨_, rfl⟩
  obtain ⟨W0, hW0⟩ : ∃ W, W = ((w.alloc (.cells (stA s) 46)).alloc (.cells (rrA r) 109)).alloc (.cells #[.string ⟨#[116, 99]⟩, .string ⟨#[100, 99]⟩] 163) := ⟨_, rfl⟩
  have hm0 : Mod [] w W0 := by rw [hW0]; exact (((Mod.refl [] w).alloc _).alloc _).alloc _
  have z1 : (w.alloc (.cells (stA s) 46)).heap.size = rb := by rw [hrb]; simp
  have z2 : ((w.alloc (.cells (stA s) 46)).alloc (.cells (rrA r) 109)).heap.size = ab := by rw [hab]; simp
  have hsbk : Blk W0 sb (stA s) 46 := by rw [hW0, hsb]; exact ((Blk.new _ _ _).alloc _).alloc _
  have hrbk : Blk W0 rb (rrA r) 109 := by rw [hW0, ← z1]; exact (Blk.new _ _ _).alloc _
  have habk : Blk W0 ab #[.string ⟨#[116, 99]⟩, .string ⟨#[100, 99]⟩] 163 := by rw [hW0, ← z2]; exact Blk.new _ _ _
  have HM0 := hid hm0
  have HSB := hid hsbk
  have HRB := hid hrbk
  have HAB := hid habk
  have HW0 := hid hW0
  have Hsb := hid hsb
  have Hrb := hid hrb
  have Hab := hid hab
  have HRM := hid hr
  have HOK := hid hs
  clear hm0 z1 z2 hsbk hrbk habk hW0 hsb hrb hab hr hs
  go_enter Tryz.func56, Tryz.ntmps56
  go_wp2_with fail
  rw [← HW0.out, ← Hab.out, ← Hrb.out, ← Hsb.out]
  go_loopg [6, 7] r.pl.length (fun g vo vi wr => ∃ (j : Nat) (o : Bs), vo = .string (str o) ∧ vi = .int .i64 (j : Int) ∧ j + g = r.pl.length ∧ Hid (o = pre2 r s j) ∧ Hid (Mod [] W0 wr))
  · exact ⟨0, r.word, rfl, rfl, by omega, hid rfl, hid (Mod.refl _ _)⟩
  · obtain ⟨j, o, rfl, rfl, hj, hO, hM⟩ := hrel
    have hsr := hM.out.blk HSB.out (by simp)
    have hrr := hM.out.blk HRB.out (by simp)
    have har := hM.out.blk HAB.out (by simp)
    obtain ⟨s0, s1, s2, s3, s4, s5, s6, s7⟩ := st_cells hsr
    have r9 := hrr.cell 9
    have a0 := har.cell 0
    have a1 := har.cell 1
    have sl := hsr.lt
    have rl := hrr.lt
    have al := har.lt
    simp only [List.getElem?_toArray, List.getElem?_cons_zero, List.getElem?_cons_succ] at r9 a0 a1
    have hfl : (str (folR r)).size = r.pl.length := by rw [str_len, fol_len]
    have hpn : r.pl.length < 4 := by
      have := List.all_eq_true.1 rows_okW r HRM.out
      simp only [Bool.and_eq_true, decide_eq_true_eq] at this
      exact this.2
    clear hsr hrr har
    by_cases hlt : j < r.pl.length
    · obtain ⟨p, hp⟩ : ∃ p, r.pl[j]? = some p := ⟨_, List.getElem?_eq_getElem hlt⟩
      have hix := run_at (str (folR r)) j (lettP p) (fol_at hp)
      have hok := plOk_of HRM.out hp
      have hj0 : (0 : Int) ≤ (j : Int) := by omega
      have hj1 : (j : Int) < (r.pl.length : Int) := by omega
      have HPRE : Hid (o ++ 32 :: printP p s = pre2 r s (j + 1)) := by show _ = _; rw [hO.out]; exact (pre2_succ r s j p hp).symm
      have hlen : o.length ≤ 6000100 := by
        have h1 := pre2_len HRM.out HOK.out j (by omega)
        have h2 := List.all_eq_true.1 rows_okW r HRM.out
        simp only [Bool.and_eq_true, decide_eq_true_eq] at h2
        rw [hO.out]
        omega
      have hpl := prL_len p HOK.out
      have E1 : str o ++ (⟨#[32]⟩ : ByteArray) = str (o ++ [32]) := str_cat o [32]
      have hz1 : (str o).size = o.length := str_len o
      have hz2 : (str (o ++ [32])).size = o.length + 1 := by rw [str_len]; simp
      obtain ⟨x, hx⟩ : ∃ x, x = printP p s := ⟨_, rfl⟩
      have E2 : Hid (str (o ++ [32]) ++ str x = str (o ++ 32 :: x)) := by show _ = _; rw [str_cat]; simp
      have hz3 : (str x).size = x.length := str_len x
      rw [← hx] at HPRE hpl
      have HX := hid hx
      clear hx hO hp
      cases p with
      | nA lo hi =>
        simp only [plOk, Bool.and_eq_true, beq_iff_eq] at hok
        obtain ⟨⟨hj00, rfl⟩, rfl⟩ := hok
        have hji : ¬ (0 : Int) < (j : Int) := by omega
        have HD : Hid (∀ W, Calls Tryz.prog 83 #[.int .u64 (IntKind.u64.wrap (max s.a 0))] W fun e w' => e = .returned (.string (str x)) ∧ Mod [] W w') := by
          intro W
          have h1 := HOK.out.a1
          have e : IntKind.u64.wrap (max s.a 0) = ((s.a.toNat : Nat) : Int) := by rw [IntKind.wrap_u64]; omega
          rw [e, HX.out]
          exact digits_r _ _ (by omega)
        simp only [lettP] at hix
        clear hj00
        go_wp2_with fail
        refine (HD.out wr).mono ?_
        rintro e w3 ⟨rfl, hm⟩
        have HM3 := hid (hM.out.tr hm)
        clear hm hM
        go_wp2_with fail
        go_roundg (gk - 1)
        case measure => omega
        case rel => exact ⟨j + 1, o ++ 32 :: x, by rw [← E2.out], by go_num, by omega, HPRE, HM3⟩
      | nB lo hi =>
        simp only [plOk, Bool.and_eq_true, beq_iff_eq, bne_iff_ne, ne_eq] at hok
        obtain ⟨⟨hj00, rfl⟩, rfl⟩ := hok
        have hji : (0 : Int) < (j : Int) := by omega
        have HD : Hid (∀ W, Calls Tryz.prog 83 #[.int .u64 (IntKind.u64.wrap (max s.b 0))] W fun e w' => e = .returned (.string (str x)) ∧ Mod [] W w') := by
          intro W
          have h1 := HOK.out.b1
          have e : IntKind.u64.wrap (max s.b 0) = ((s.b.toNat : Nat) : Int) := by rw [IntKind.wrap_u64]; omega
          rw [e, HX.out]
          exact digits_r _ _ (by omega)
        simp only [lettP] at hix
        clear hj00
        go_wp2_with fail
        refine (HD.out wr).mono ?_
        rintro e w3 ⟨rfl, hm⟩
        have HM3 := hid (hM.out.tr hm)
        clear hm hM
        go_wp2_with fail
        go_roundg (gk - 1)
        case measure => omega
        case rel => exact ⟨j + 1, o ++ 32 :: x, by rw [← E2.out], by go_num, by omega, HPRE, HM3⟩
      | who =>
        simp only [lettP] at hix
        have hb := and_one s.a
        rcases (by omega : s.a % 2 = 0 ∨ s.a % 2 = 1) with h | h
        · rw [h] at hb
          have hx : x = tcB := by rw [HX.out]; show (if s.a % 2 = 0 then tcB else dcB) = _; rw [if_pos h]
          subst hx
          clear h
          have hz4 : (⟨#[116, 99]⟩ : ByteArray).size = 2 := rfl
          go_wp2_with fail
          go_roundg (gk - 1)
          case measure => omega
          case rel => exact ⟨j + 1, o ++ 32 :: tcB, by rw [← E2.out]; rfl, by go_num, by omega, HPRE, hM⟩
        · rw [h] at hb
          have hx : x = dcB := by rw [HX.out]; show (if s.a % 2 = 0 then tcB else dcB) = _; rw [if_neg (by omega)]
          subst hx
          clear h
          have hz4 : (⟨#[100, 99]⟩ : ByteArray).size = 2 := rfl
          go_wp2_with fail
          go_roundg (gk - 1)
          case measure => omega
          case rel => exact ⟨j + 1, o ++ 32 :: dcB, by rw [← E2.out]; rfl, by go_num, by omega, HPRE, hM⟩
      | ts =>
        have HD : Hid (∀ W, Calls Tryz.prog 83 #[.int .u64 (s.ts : Int)] W fun e w' => e = .returned (.string (str x)) ∧ Mod [] W w') := by
          intro W
          rw [HX.out]
          exact digits_r _ _ HOK.out.ts
        simp only [lettP] at hix
        go_wp2_with fail
        refine (HD.out wr).mono ?_
        rintro e w3 ⟨rfl, hm⟩
        have HM3 := hid (hM.out.tr hm)
        clear hm hM
        go_wp2_with fail
        go_roundg (gk - 1)
        case measure => omega
        case rel => exact ⟨j + 1, o ++ 32 :: x, by rw [← E2.out], by go_num, by omega, HPRE, HM3⟩
      | key lo =>
        by_cases hl : lo = 0
        · subst hl
          simp only [plOk, if_true, beq_iff_eq] at hok
          have hje : ((j : Int) == 1) = true := by simp [hok]
          have hjd : decide ((j : Int) = 1) = true := by simp [hok]
          simp only [lettP, if_true] at hix
          clear hok
          have HD : Hid (∀ W, Calls Tryz.prog 84 #[.string (str s.key)] W fun e w' => e = .returned (.string (str x)) ∧ w' = W) := by
            intro W
            rw [HX.out]
            exact quote_r _ _ HOK.out.key
          go_wp2_with fail
          refine (HD.out wr).mono ?_
          rintro e w3 ⟨rfl, rfl⟩
          go_wp2_with fail
          go_roundg (gk - 1)
          case measure => omega
          case rel => exact ⟨j + 1, o ++ 32 :: x, by rw [← E2.out], by go_num, by omega, HPRE, hM⟩
        · simp only [lettP, if_neg hl] at hix
          clear hok
          have HD : Hid (∀ W, Calls Tryz.prog 84 #[.string (str s.key)] W fun e w' => e = .returned (.string (str x)) ∧ w' = W) := by
            intro W
            rw [HX.out]
            exact quote_r _ _ HOK.out.key
          go_wp2_with fail
          refine (HD.out wr).mono ?_
          rintro e w3 ⟨rfl, rfl⟩
          go_wp2_with fail
          go_roundg (gk - 1)
          case measure => omega
          case rel => exact ⟨j + 1, o ++ 32 :: x, by rw [← E2.out], by go_num, by omega, HPRE, hM⟩
      | hi =>
        have hj1e : ¬ (j : Int) = 1 := by simp [plOk] at hok; omega
        simp only [lettP] at hix
        clear hok
        have HD : Hid (∀ W, Calls Tryz.prog 84 #[.string (str s.hi)] W fun e w' => e = .returned (.string (str x)) ∧ w' = W) := by
          intro W
          rw [HX.out]
          exact quote_r _ _ HOK.out.hi
        go_wp2_with fail
        refine (HD.out wr).mono ?_
        rintro e w3 ⟨rfl, rfl⟩
        go_wp2_with fail
        go_roundg (gk - 1)
        case measure => omega
        case rel => exact ⟨j + 1, o ++ 32 :: x, by rw [← E2.out], by go_num, by omega, HPRE, hM⟩
      | val =>
        simp only [lettP] at hix
        clear hok
        have HD : Hid (∀ W, Calls Tryz.prog 84 #[.string (str s.val)] W fun e w' => e = .returned (.string (str x)) ∧ w' = W) := by
          intro W
          rw [HX.out]
          exact quote_r _ _ HOK.out.val
        go_wp2_with fail
        refine (HD.out wr).mono ?_
        rintro e w3 ⟨rfl, rfl⟩
        go_wp2_with fail
        go_roundg (gk - 1)
        case measure => omega
        case rel => exact ⟨j + 1, o ++ 32 :: x, by rw [← E2.out], by go_num, by omega, HPRE, hM⟩
    · obtain rfl : j = r.pl.length := by omega
      have HR : Hid (o = printR r s) := by show _ = _; rw [hO.out, pre2_all]
      clear hO
      go_wp2_with fail
      go_ret
      refine ⟨?_, HM0.out.tr hM.out⟩
      show Ending.returned (.string (str o)) = _
      rw [HR.out]
end
end Go.Proofs.YtibhkldnimfnkaaGreatDoor

/- A region that draws its order, operation by operation, where some are guarded, and where a wait that binds one way alone does not count. -/
namespace Go.Proofs.YtibhkldnimfnkaaGreatDoor
section
set_option linter.unusedVariables false
set_option linter.unusedSimpArgs false
set_option linter.unusedSectionVars false
open Go.RowKit

section
variable {P : Program} {ops : Array Oper} {Q : Exit → Act → World → Prop} {S : World → Prop} {V : Nat → Value → World → Prop} {J : Array Bool → World → Prop} {a0 : Act}
/-- As tidy, but guards may be. -/
def tidyH (ops : Array Oper) (n : Nat) : Bool :=
  ops.toList.all (fun o => (match o.dst with | some d => decide (d < n) | none => true)) &&
  decide ((ops.toList.filterMap (·.dst)).Nodup) &&
  (List.range ops.size).all fun i => match ops[i]? with | some o => o.after.all fun e => !Region.binds .any e || decide (e.on < i) | none => true
theorem TidyH.dst {n : Nat} (h : tidyH ops n = true) {i : Nat} {o : Oper} (hi : ops[i]? = some o) : ∀ d, o.dst = some d → d < n := by
  simp only [tidyH, Bool.and_eq_true, List.all_eq_true] at h
  have := h.1.1 o (by simpa using Array.mem_of_getElem? hi)
  intro d hd
  rw [hd] at this
  simpa using this
theorem TidyH.once {n : Nat} (h : tidyH ops n = true) {i j : Nat} {o o' : Oper} {d : Tmp} (hi : ops[i]? = some o) (hj : ops[j]? = some o') (h1 : o.dst = some d) (h2 : o'.dst = some d) : i = j := by
  simp only [tidyH, Bool.and_eq_true, decide_eq_true_eq] at h
  exact nodup_dst ops.toList h.1.2 i j o o' d (by simpa using hi) (by simpa using hj) h1 h2
theorem TidyH.after {n : Nat} (h : tidyH ops n = true) {i : Nat} {o : Oper} (hi : ops[i]? = some o) : ∀ e ∈ o.after, Region.binds .any e = true → e.on < i := by
  simp only [tidyH, Bool.and_eq_true, List.all_eq_true] at h
  have hlt := (Array.getElem?_eq_some_iff.1 hi).1
  have := h.2 i (List.mem_range.2 hlt)
  rw [hi] at this
  simp only [Array.all_eq_true_iff_forall_mem] at this
  intro e he hb
  have h2 := this e he
  rw [hb] at h2
  simpa using h2

theorem RegAt.putH {n : Nat} (ht : tidyH ops n = true) (hn : a0.tmps.size = n) {listed : Array Bool} {a : Act} {w w' : World} (h : RegAt ops S V a0 listed a w) {i : Nat} {o : Oper} (hi : ops[i]? = some o) (hls : listed.size = ops.size)
    {v : Value} (hS : S w') (hV : V i (match o.dst with | some _ => v | none => undef) w') (hK : ∀ j u, j ≠ i → V j u w → V j u w') : RegAt ops S V a0 (listed.setIfInBounds i true) (a.put o.dst v) w' := by
  have hlt := (Array.getElem?_eq_some_iff.1 hi).1
  refine ⟨hS, ?_, ?_, ?_, ?_⟩
  · cases hd : o.dst <;> exact h.defers
  · rw [← h.size]; cases hd : o.dst <;> simp [Act.put]
  · intro j o' hj hl
    by_cases hij : i = j
    · subst hij
      rw [hi] at hj
      cases hj
      unfold Act.left
      cases hd : o.dst with
      | none => rw [hd] at hV; exact hV
      | some d =>
        rw [hd] at hV
        have hdn := TidyH.dst ht hi d hd
        have : d < a.tmps.size := by rw [h.size, hn]; exact hdn
        simp only [Act.put]
        rw [Array.getD_eq_getD_getElem?, Array.getElem?_setIfInBounds_self_of_lt this]
        exact hV
    · rw [getD_set_ne false hij] at hl
      have := hK j _ (Ne.symm hij) (h.got j o' hj hl)
      unfold Act.left at this ⊢
      cases hd' : o'.dst with
      | none => rw [hd'] at this; exact this
      | some d' =>
        rw [hd'] at this
        cases hd : o.dst with
        | none => exact this
        | some d =>
          have hne : d ≠ d' := fun e => hij (TidyH.once ht hi hj hd (by rw [hd', e]))
          simp only [Act.put]
          rw [Array.getD_eq_getD_getElem?, Array.getElem?_setIfInBounds_ne hne, ← Array.getD_eq_getD_getElem?]
          exact this
  · intro t hT
    rw [← h.kept t hT]
    cases hd : o.dst with
    | none => rfl
    | some d =>
      have hne : d ≠ t := fun e => hT i o hi (by rw [hd, e])
      simp only [Act.put]
      rw [Array.getD_eq_getD_getElem?, Array.getElem?_setIfInBounds_ne hne, ← Array.getD_eq_getD_getElem?]

theorem ready_allH {n : Nat} (ht : tidyH ops n = true) {listed : Array Bool} (hls : listed.size = ops.size) (hr : Region.ready .any ops listed = []) : ∀ i, i < ops.size → listed.getD i false = true := by
  intro i
  induction i using Nat.strongRecOn with
  | ind i ih =>
    intro hi
    by_cases h : listed.getD i false = true
    · exact h
    · have hin : i ∈ Region.ready .any ops listed := by
        refine mem_ready.2 ⟨?_, ops[i], Array.getElem?_eq_getElem hi, fun e he hb => ?_⟩
        · rw [Array.getD_eq_getD_getElem?, Array.getElem?_eq_getElem (by omega)] at h ⊢
          simpa using h
        · have hlt := TidyH.after ht (Array.getElem?_eq_getElem hi) e he hb
          exact ih e.on hlt (by omega)
      rw [hr] at hin
      cases hin

theorem wpAny_eachH {n : Nat} (ht : tidyH ops n = true) (hn : a0.tmps.size = n)
    (step : ∀ (i : Nat) (o : Oper), ops[i]? = some o → ∀ (listed : Array Bool) a w, RegAt ops S V a0 listed a w → J listed w → listed.size = ops.size → listed.getD i true = false → (∀ e ∈ o.after, Region.binds .any e = true → listed.getD e.on false = true) → ∀ K : Act → World → Prop,
      (∀ v w', S w' → V i (match o.dst with | some _ => v | none => undef) w' → (∀ j u, j ≠ i → V j u w → V j u w') → J (listed.setIfInBounds i true) w' → K (a.put o.dst v) w') → if Region.wanted o (yielded ops a.tmps) = true then o.wp P a w K Q else K (a.put o.dst undef) w)
    (fin : ∀ listed a w, RegAt ops S V a0 listed a w → (∀ i, i < ops.size → listed.getD i false = true) → Q .normal a w) :
    ∀ (fuel : Nat) (listed : Array Bool) (a : Act) (w : World), listed.size = ops.size → (listed.toList.filter (fun x => !x)).length ≤ fuel → RegAt ops S V a0 listed a w → J listed w → wpAny P .any ops Q fuel listed a w := by
  intro fuel
  induction fuel with
  | zero =>
    intro listed a w hls hf h hJ
    have hall : ∀ i, listed.getD i true = true := by
      intro i
      cases hx : listed[i]? with
      | none => rw [Array.getD_eq_getD_getElem?, hx]; rfl
      | some b =>
        rw [Array.getD_eq_getD_getElem?, hx]
        cases b with
        | true => rfl
        | false =>
          have hm : false ∈ listed.toList.filter (fun x => !x) := List.mem_filter.2 ⟨by simpa using Array.mem_of_getElem? hx, rfl⟩
          rw [List.length_eq_zero_iff.1 (Nat.le_zero.1 hf)] at hm
          cases hm
    have hr : Region.ready .any ops listed = [] := by
      rw [List.eq_nil_iff_forall_not_mem]
      intro i hi
      have := (mem_ready.1 hi).1
      rw [hall i] at this
      cases this
    exact ⟨hr, fin listed a w h (ready_allH ht hls hr)⟩
  | succ fuel ih =>
    intro listed a w hls hf h hJ
    have key : ∀ (l : List Bool) (i : Nat), l[i]? = some false → ((l.set i true).filter (fun x => !x)).length + 1 = (l.filter (fun x => !x)).length := by
      intro l
      induction l with
      | nil => intro i h; simp at h
      | cons b l ihl =>
        intro i h
        cases i with
        | zero => simp at h; subst h; simp
        | succ i =>
          simp at h
          have := ihl i h
          cases b <;> simp [this]
    have hlen : ∀ i, listed.getD i true = false → ((listed.setIfInBounds i true).toList.filter (fun x => !x)).length ≤ fuel := by
      intro i h0
      have hfi : listed.toList[i]? = some false := by
        rw [Array.getD_eq_getD_getElem?] at h0
        rw [Array.getElem?_toList]
        cases hx : listed[i]? with
        | none => rw [hx] at h0; cases h0
        | some b => rw [hx] at h0; simp at h0; rw [h0]
      have := key _ _ hfi
      rw [Array.toList_setIfInBounds]
      omega
    refine ⟨fun hr => fin listed a w h (ready_allH ht hls hr), fun i hi => ?_⟩
    obtain ⟨h0, o, ho, hall⟩ := mem_ready.1 hi
    have hlt := (Array.getElem?_eq_some_iff.1 ho).1
    unfold wpOp
    simp only [ho]
    have H := step i o ho listed a w h hJ hls h0 hall _ fun v w' hS hV hK hJ' => ih _ _ _ (by simp [hls]) (hlen i h0) (h.putH ht hn ho hls hS hV hK) hJ'
    split
    · rename_i hw
      rw [if_pos hw] at H
      exact .inl H
    · rename_i hw
      rw [if_neg hw] at H
      exact H

/-- One operation's part. -/
def Step1H (P : Program) (ops : Array Oper) (Q : Exit → Act → World → Prop) (S : World → Prop) (V : Nat → Value → World → Prop) (J : Array Bool → World → Prop) (a0 : Act) (i : Nat) (o : Oper) : Prop :=
  ∀ (listed : Array Bool) a w, RegAt ops S V a0 listed a w → J listed w → listed.size = ops.size → listed.getD i true = false → (∀ e ∈ o.after, Region.binds .any e = true → listed.getD e.on false = true) → ∀ K : Act → World → Prop,
      (∀ v w', S w' → V i (match o.dst with | some _ => v | none => undef) w' → (∀ j u, j ≠ i → V j u w → V j u w') → J (listed.setIfInBounds i true) w' → K (a.put o.dst v) w') → if Region.wanted o (yielded ops a.tmps) = true then o.wp P a w K Q else K (a.put o.dst undef) w
def StepsH (P : Program) (ops : Array Oper) (Q : Exit → Act → World → Prop) (S : World → Prop) (V : Nat → Value → World → Prop) (J : Array Bool → World → Prop) (a0 : Act) : Nat → List Oper → Prop
  | _, [] => True
  | k, o :: l => Step1H P ops Q S V J a0 k o ∧ StepsH P ops Q S V J a0 (k + 1) l
theorem StepsH.at : ∀ (l : List Oper) (k : Nat), StepsH P ops Q S V J a0 k l → ∀ i o, l[i]? = some o → Step1H P ops Q S V J a0 (k + i) o
  | [], _, _, i, o, h => by simp at h
  | x :: l, k, hs, i, o, h => by
    cases i with
    | zero => simp at h; subst h; exact hs.1
    | succ i =>
      simp at h
      have := StepsH.at l (k + 1) hs.2 i o h
      rw [show k + (i + 1) = k + 1 + i by omega]
      exact this
theorem wp_region_stepsH {id : Nat} {l : List Oper} {w : World} (hm : P.follows .mixedOrders = true) (ht : tidyH l.toArray a0.tmps.size = true) (S : World → Prop) (V : Nat → Value → World → Prop) (J : Array Bool → World → Prop) (h0 : S w.drew)
    (hJ : J (Array.replicate l.toArray.size false) w.drew)
    (steps : StepsH P l.toArray Q S V J a0 0 l)
    (fin : ∀ listed a w, RegAt l.toArray S V a0 listed a w → (∀ i, i < l.toArray.size → listed.getD i false = true) → Q .normal a w) : (Code.region id l.toArray true).wp P Q a0 w := by
  refine wp_region_any hm (wpAny_eachH (J := J) ht rfl (fun i o ho => by have := StepsH.at l 0 steps i o (by simpa using ho); rw [Nat.zero_add] at this; exact this) fin l.toArray.size _ _ _ (by simp) ?_ ⟨h0, rfl, rfl, ?_, fun _ _ => rfl⟩ hJ)
  · refine Nat.le_trans (List.length_filter_le _ _) (by simp)
  · intro i o ho hl
    rw [Array.getD_eq_getD_getElem?, Array.getElem?_replicate] at hl
    split at hl <;> cases hl
end
end
end Go.Proofs.YtibhkldnimfnkaaGreatDoor

/- Script, the reference: a step's line. -/
namespace Go.Proofs.YtibhkldnimfnkaaGreatDoor
section
set_option linter.unusedVariables false
set_option linter.unusedSimpArgs false
set_option linter.unusedSectionVars false
open Go.RowKit

theorem LrG.opened {o : Ln} {w w' : World} {e : Ending} (h : LrG o w e w') (hne : ∀ c, o = .bad c → c ≠ 0) :
    Mod [] w w' ∧ ∃ (u : St) (ev : Int) (b : Bool), e = .returned (.tuple #[stF u, .int .i64 ev, .bool b]) ∧ ∀ s, decide (o = .ok s) = ((ev == 0) && b && decide (u = s)) := by
  obtain ⟨hm, h⟩ := h
  refine ⟨hm, ?_⟩
  cases o with
  | blank => obtain ⟨t, rfl⟩ := h; exact ⟨t, 0, false, rfl, fun s => by simp⟩
  | bad c =>
    obtain ⟨t, rfl⟩ := h
    have hc := hne c rfl
    refine ⟨t, c, true, rfl, fun s => ?_⟩
    have : ((c : Int) == 0) = false := by simp [hc]
    rw [this]
    simp
  | ok t => obtain rfl := h; exact ⟨t, 0, true, rfl, fun s => by simp⟩
set_option maxRecDepth 100000 in
set_option maxHeartbeats 2000000 in
theorem st_eql (x y : St) (p q : Operand) (w : World) : (do eqGuard .eql 46 p q (stF x) (stF y); binOp .eql 46 (stF x) (stF y) : Sem Value).run Tryz.prog w = .ok (.bool (decide (x = y))) w := by
  have hne : ∀ {α : Type} (f : St → α), f x ≠ f y → decide (x = y) = false := fun f h => decide_eq_false (fun e => h (by rw [e]))
  by_cases h1 : x.kind = y.kind
  · by_cases h2 : x.a = y.a
    · by_cases h3 : x.b = y.b
      · by_cases h4 : x.ck = y.ck
        · by_cases h5 : (x.ts : Int) = (y.ts : Int)
          · by_cases h6 : x.key = y.key
            · by_cases h7 : x.hi = y.hi
              · by_cases h8 : x.val = y.val
                · rw [st_ext h1 h2 h3 h4 h5 h6 h7 h8]
                  simp [go_sem]
                · rw [hne (·.val) h8]
                  simp [go_sem, h1, h2, h3, h4, h5, h6, h7, h8]
              · rw [hne (·.hi) h7]
                simp [go_sem, h1, h2, h3, h4, h5, h6, h7]
            · rw [hne (·.key) h6]
              simp [go_sem, h1, h2, h3, h4, h5, h6]
          · rw [hne (fun s => (s.ts : Int)) h5]
            simp [go_sem, h1, h2, h3, h4, h5]
        · rw [hne (·.ck) h4]
          simp [go_sem, h1, h2, h3, h4]
      · rw [hne (·.b) h3]
        simp [go_sem, h1, h2, h3]
    · rw [hne (·.a) h2]
      simp [go_sem, h1, h2]
  · rw [hne (·.kind) h1]
    simp [go_sem, h1]
/-- What Line says; and whether it may be. -/
def out2 (s : St) : Bs := match rowOf s with | none => [] | some r => printR r s
def ok2 (s : St) : Bool := match rowOf s with | none => false | some r => decide (lineL (printR r s) = .ok s)
theorem line_eq (s : St) : (if ok2 s = true then some (out2 s) else none) = printedL s := by
  unfold ok2 out2 printedL
  cases rowOf s with
  | none => rfl
  | some r =>
    simp only
    by_cases h : lineL (printR r s) = .ok s
    · simp [h]
    · simp [h]
theorem out2_len {s : St} (h : StOk s) : (out2 s).length ≤ 6000019 := by
  unfold out2
  cases hr : rowOf s with
  | none => simp
  | some r =>
    have hm : r ∈ rowsL := List.mem_of_find?_eq_some hr
    have h1 := pre2_len hm h r.pl.length (Nat.le_refl _)
    rw [pre2_all] at h1
    have hpn : r.pl.length < 4 := by
      have := List.all_eq_true.1 rows_okW r hm
      simp only [Bool.and_eq_true, decide_eq_true_eq] at this
      exact this.2
    show (printR r s).length ≤ _
    omega

set_option maxRecDepth 100000 in
set_option maxHeartbeats 4000000 in
theorem Line_r (s : St) (w : World) (hs : StOk s) :
    Calls Tryz.prog 31 #[stF s] w fun e w' => Mod [] w w' ∧ e = .returned (.tuple #[.string (str (out2 s)), .bool (ok2 s)]) := by
  obtain ⟨sb, hsb⟩ : ∃ b, b = w.heap.size := ⟨_, rfl⟩
  obtain ⟨W0, hW0⟩ : ∃ W, W = w.alloc (.cells (stA s) 46) := ⟨_, rfl⟩
  have HM0 : Hid (Mod [] w W0) := by rw [hW0]; exact (Mod.refl [] w).alloc _
  have HSB : Hid (Blk W0 sb (stA s) 46) := by rw [hW0, hsb]; exact Blk.new _ _ _
  have HW0 := hid hW0
  have Hsb := hid hsb
  have HOK := hid hs
  obtain ⟨rb, hrb⟩ : ∃ b, b = W0.heap.size := ⟨_, rfl⟩
  have hrr := rows_r W0
  rw [← hrb] at hrr
  have HRR := hid hrr
  have Hrb := hid hrb
  have HF0 : Hid (rowOf s = rowsL.find? (fun r => r.kind == s.kind && r.ck == s.ck)) := rfl
  clear hW0 hsb hs hrr hrb
  go_enter Tryz.func31, Tryz.ntmps31
  go_wp2_with fail
  rw [← HW0.out, ← Hsb.out]
  refine HRR.out.mono ?_
  rintro e w1 ⟨rfl, hw1⟩
  have hm1 : Mod [] W0 w1 := by rw [hw1]; exact (Mod.refl [] W0).alloc _
  have HRB : Hid (Blk w1 rb refA 109) := by rw [hw1, Hrb.out]; exact Blk.new _ _ _
  have HM1 := hid (HM0.out.tr hm1)
  have HS1 := hid (hm1.blk HSB.out (by simp))
  clear hw1 hm1 HRR HSB HM0 HW0
  go_wp2_with fail
  go_loopg [5] 18 (fun g i wr => ∃ j : Nat, i = .int .i64 (j : Int) ∧ j + g = 18 ∧ Hid ((rowsL.drop j).find? (fun r => r.kind == s.kind && r.ck == s.ck) = rowsL.find? (fun r => r.kind == s.kind && r.ck == s.ck)) ∧ Hid (Mod [] w1 wr))
  · exact ⟨0, rfl, by omega, hid rfl, hid (Mod.refl _ _)⟩
  · obtain ⟨j, rfl, hj, hF, hM⟩ := hrel
    have HMR := hid (HM1.out.tr hM.out)
    have HSR := hid (hM.out.blk HS1.out (by simp))
    have HRR := hid (hM.out.blk HRB.out (by simp))
    clear HM1 
    by_cases hj18 : j < 18
    · obtain ⟨r, hr⟩ : ∃ r, rowsL[j]? = some r := ⟨_, List.getElem?_eq_getElem hj18⟩
      obtain ⟨r0, r1, r2, r3, r4, r5, r6, r7, r8, r9, r10, r11⟩ := rr_cells HRR.out hr
      obtain ⟨s0, s1, s2, s3, s4, s5, s6, s7⟩ := st_cells HSR.out
      have sl := HSR.out.lt
      have bl := HRR.out.lt
      have HF := hid (hF.out.symm.trans (find_at hr))
      have k0 : (j : Int) < 18 := by omega
      have k1 : (0 : Int) ≤ (j : Int) := by omega
      have HR := hid hr
      have HRM := hid (List.mem_of_getElem? hr)
      clear hF hr
      by_cases hk : (r.kind == s.kind) = true
      · by_cases hc : (r.ck == s.ck) = true
        · have HRO : Hid (rowOf s = some r) := by
            show _ = _
            have h := HF.out
            simp only [hk, hc, Bool.and_self, if_true] at h
            rw [HF0.out]
            exact h
          obtain ⟨t, ht⟩ : ∃ t, t = printR r s := ⟨_, rfl⟩
          have HE : Hid (out2 s = t ∧ ok2 s = decide (lineL t = .ok s)) := ⟨by unfold out2; rw [HRO.out, ht], by unfold ok2; rw [HRO.out, ht]⟩
          have htl : t.length < 4294967000 := by
            have h1 := out2_len HOK.out
            rw [HE.out.1] at h1
            omega
          have HPC : Hid (∀ W, Calls Tryz.prog 56 #[stF s, rrV r] W fun e w' => e = .returned (.string (str t)) ∧ Mod [] W w') := by rw [ht]; exact fun W => printed_r s r HRM.out W HOK.out
          have HTL := hid htl
          clear ht htl HF
          go_wp2_with fail
          go_quiet (fail)
          obtain ⟨W1, hW1⟩ : ∃ W, W = wr.drewN nq := ⟨_, rfl⟩
          rw [← hW1]
          have hmW : Mod [] wr W1 := by rw [hW1]; exact (Mod.refl [] wr).drewN _
          have HMW := hid (HMR.out.tr hmW)
          have HSW := hid (hmW.blk HSR.out (by simp))
          have HRW := hid (hmW.blk HRR.out (by simp))
          clear hW1 hmW r0 r1 r2 r3 r4 r5 r6 r7 r8 r9 r10 r11 s0 s1 s2 s3 s4 s5 s6 s7 sl bl hM HMR HSR HRR
          go_wp2_with fail
          refine wp_region_steps (by rfl) (by kernel_rfl) (fun W => Mod [] W1 W)
            (fun i v W => match i with
              | 0 => v = stF s
              | 1 => v = .slice (some ⟨rb, 0, none⟩) 18 18
              | 2 => v = .int .i64 (j : Int)
              | 3 => v = .pointer (some ⟨rb, j * 12, none⟩)
              | 4 => v = rrV r
              | 5 => v = .string (str t)
              | 6 => v = .string (str t)
              | _ => True) ?h0 ?steps ?fin
          case h0 => exact (Mod.refl [] W1).drew
          case steps =>
            refine ⟨?s0, ?s1, ?s2, ?s3, ?s4, ?s5, ?s6, trivial⟩
            case s0 =>
              intro listed a W hR hall K hK
              have e1 : a.tmps[1]?.getD undef = _ := hR.old' 1 (by rfl)
              simp only [List.getElem?_toArray, List.getElem?_cons_zero, List.getElem?_cons_succ, Option.getD_some] at e1
              have hmw : Mod [] W1 W := hR.world
              obtain ⟨c0, c1, c2, c3, c4, c5, c6, c7⟩ := st_cells (hmw.blk HSW.out (by simp))
              exact Oper.wp_value (stF s) (by simp [go_sem, e1, c0, c1, c2, c3, c4, c5, c6, c7]) (hK _ _ hR.world rfl (fun _ _ _ h => h))
            case s1 =>
              intro listed a W hR hall K hK
              have e1 : a.tmps[4]?.getD undef = _ := hR.old' 4 (by rfl)
              simp only [List.getElem?_toArray, List.getElem?_cons_zero, List.getElem?_cons_succ, Option.getD_some] at e1
              exact Oper.wp_value (.slice (some ⟨rb, 0, none⟩) 18 18) (by simp [go_sem, e1]) (hK _ _ hR.world rfl (fun _ _ _ h => h))
            case s2 =>
              intro listed a W hR hall K hK
              have e1 : a.tmps[5]?.getD undef = _ := hR.old' 5 (by rfl)
              simp only [List.getElem?_toArray, List.getElem?_cons_zero, List.getElem?_cons_succ, Option.getD_some] at e1
              exact Oper.wp_value (.int .i64 (j : Int)) (by simp [go_sem, e1]) (hK _ _ hR.world rfl (fun _ _ _ h => h))
            case s3 =>
              intro listed a W hR hall K hK
              have e1 : a.tmps[40]?.getD undef = .slice (some ⟨rb, 0, none⟩) 18 18 := hR.val 1 rfl rfl (hall ⟨1, .data⟩ (by simp) rfl)
              have e2 : a.tmps[41]?.getD undef = .int .i64 (j : Int) := hR.val 2 rfl rfl (hall ⟨2, .data⟩ (by simp) rfl)
              exact Oper.wp_value (.pointer (some ⟨rb, j * 12, none⟩)) (by simp [go_sem, e1, e2, hj18]; intro h; omega) (hK _ _ hR.world rfl (fun _ _ _ h => h))
            case s4 =>
              intro listed a W hR hall K hK
              have e1 : a.tmps[42]?.getD undef = .pointer (some ⟨rb, j * 12, none⟩) := hR.val 3 rfl rfl (hall ⟨3, .data⟩ (by simp) rfl)
              have hmw : Mod [] W1 W := hR.world
              obtain ⟨c0, c1, c2, c3, c4, c5, c6, c7, c8, c9, c10, c11⟩ := rr_cells (hmw.blk HRW.out (by simp)) HR.out
              exact Oper.wp_value (rrV r) (by simp [go_sem, e1, c0, c1, c2, c3, c4, c5, c6, c7, c8, c9, c10, c11]) (hK _ _ hR.world rfl (fun _ _ _ h => h))
            case s5 =>
              intro listed a W hR hall K hK
              have e1 : a.tmps[39]?.getD undef = stF s := hR.val 0 rfl rfl (hall ⟨0, .data⟩ (by simp) rfl)
              have e2 : a.tmps[43]?.getD undef = rrV r := hR.val 4 rfl rfl (hall ⟨4, .data⟩ (by simp) rfl)
              have hmw : Mod [] W1 W := hR.world
              refine Oper.wp_call 56 #[stF s, rrV r] (by simp [go_sem, e1, e2]) (HPC.out W) ?_
              rintro e W2 ⟨rfl, hm⟩
              exact hK _ _ (hmw.tr hm) rfl (fun _ _ _ h => h)
            case s6 =>
              intro listed a W hR hall K hK
              have e1 : a.tmps[44]?.getD undef = .string (str t) := hR.val 5 rfl rfl (hall ⟨5, .data⟩ (by simp) rfl)
              exact Oper.wp_value (.string (str t)) (by simp [go_sem, e1]) (hK _ _ hR.world rfl (fun _ _ _ h => h))
          case fin =>
            intro listed a W hR hl
            have e6 : a.tmps.getD 6 undef = .string (str t) := by rw [Array.getD_eq_getD_getElem?]; exact hR.val 6 rfl rfl (hl 6 (by decide))
            have hmw : Mod [] W1 W := hR.world
            have HM3 := hid (HMW.out.tr hmw)
            have HS3 := hid (hmw.blk HSW.out (by simp))
            have hfr := hR.frame
            clear hR hl hmw HSW HRW HMW
            simp only [List.filterMap_cons, List.filterMap_nil, List.foldl_cons, List.foldl_nil, List.setIfInBounds_toArray, List.set_cons_succ, List.set_cons_zero, e6] at hfr
            generalize a.tmps.getD 39 undef = v39 at hfr
            generalize a.tmps.getD 40 undef = v40 at hfr
            generalize a.tmps.getD 41 undef = v41 at hfr
            generalize a.tmps.getD 42 undef = v42 at hfr
            generalize a.tmps.getD 43 undef = v43 at hfr
            generalize a.tmps.getD 44 undef = v44 at hfr
            rw [hfr]
            clear hfr e6
            have HLR := hid (line_r t W HTL.out)
            go_wp2_with fail
            refine HLR.out.mono ?_
            intro e w4 he
            obtain ⟨hm, u, ev, b, rfl, hdec⟩ := he.opened (fun c h => bad_ne h)
            have HDEC := hid (hdec s)
            have HM4 := hid (HM3.out.tr hm)
            have HS4 := hid (hm.blk HS3.out (by simp))
            clear he hdec hm HLR HM3 HS3
            obtain ⟨d1, hd1⟩ : ∃ d1, d1 = (ev == 0) := ⟨_, rfl⟩
            obtain ⟨d2, hd2⟩ : ∃ d2, d2 = (d1 && b) := ⟨_, rfl⟩
            obtain ⟨d3, hd3⟩ : ∃ d3, d3 = decide (u = s) := ⟨_, rfl⟩
            obtain ⟨d, hd⟩ : ∃ d, d = (d2 && d3) := ⟨_, rfl⟩
            have HDD : Hid (ok2 s = d) := by show _ = _; rw [HE.out.2, HDEC.out, hd, hd2, hd1, hd3]
            have Hd1 := hid hd1
            have Hd2 := hid hd2
            have Hd3 := hid hd3
            have Hd := hid hd
            obtain ⟨X, hX⟩ : ∃ X, X = w4.alloc (.cells (stA u) 46) := ⟨_, rfl⟩
            obtain ⟨ub, hub⟩ : ∃ b, b = w4.heap.size := ⟨_, rfl⟩
            have hmX : Mod [] w4 X := by rw [hX]; exact (Mod.refl [] w4).alloc _
            have HUX : Hid (Blk X ub (stA u) 46) := by rw [hX, hub]; exact Blk.new _ _ _
            have HMX := hid (HM4.out.tr hmX)
            have HSX := hid (hmX.blk HS4.out (by simp))
            have HXE := hid hX
            have HUE := hid hub
            clear hd1 hd2 hd3 hd HDEC hX hub hmX HM4 HS4
            go_wp2_with fail
            rw [← HXE.out, ← HUE.out]
            refine wp_region_stepsH (by rfl) (by kernel_rfl) (fun W => Mod [] X W)
              (fun i v W => match i with
                | 0 => v = .string (str t)
                | 1 => v = .int .i64 ev
                | 2 => v = .bool d1
                | 3 => v = .bool d1
                | 4 => d1 = true → v = .bool b
                | 5 => v = .bool d2
                | 6 => v = .bool d2
                | 7 => d2 = true → v = stF u
                | 8 => d2 = true → v = stF s
                | 9 => d2 = true → v = .bool d3
                | 10 => v = .bool d
                | 11 => v = .string (str t)
                | 12 => v = .bool d
                | _ => True) (fun _ _ => True) ?h0 trivial ?steps ?fin
            case h0 => exact (Mod.refl [] X).drew
            case steps =>
              refine ⟨?s0, ?s1, ?s2, ?s3, ?s4, ?s5, ?s6, ?s7, ?s8, ?s9, ?s10, ?s11, ?s12, trivial⟩
              case s0 =>
                intro listed a W hR hJ hsz hun hall K hK
                rw [if_pos (wanted_none rfl)]
                have e1 : a.tmps[6]?.getD undef = _ := hR.old' 6 (by rfl)
                simp only [List.getElem?_toArray, List.getElem?_cons_zero, List.getElem?_cons_succ, Option.getD_some] at e1
                exact Oper.wp_value (.string (str t)) (by simp [go_sem, e1]) (hK _ _ hR.world rfl (fun _ _ _ h => h) trivial)
              case s1 =>
                intro listed a W hR hJ hsz hun hall K hK
                rw [if_pos (wanted_none rfl)]
                have e1 : a.tmps[8]?.getD undef = _ := hR.old' 8 (by rfl)
                simp only [List.getElem?_toArray, List.getElem?_cons_zero, List.getElem?_cons_succ, Option.getD_some] at e1
                exact Oper.wp_value (.int .i64 ev) (by simp [go_sem, e1]) (hK _ _ hR.world rfl (fun _ _ _ h => h) trivial)
              case s2 =>
                intro listed a W hR hJ hsz hun hall K hK
                rw [if_pos (wanted_none rfl)]
                have e1 : a.tmps[52]?.getD undef = .int .i64 ev := hR.val 1 rfl rfl (hall ⟨1, .data⟩ (by simp) rfl)
                exact Oper.wp_value (.bool d1) (by rw [Hd1.out]; simp [go_sem, e1]) (hK _ _ hR.world rfl (fun _ _ _ h => h) trivial)
              case s3 =>
                intro listed a W hR hJ hsz hun hall K hK
                rw [if_pos (wanted_none rfl)]
                have e1 : a.tmps[53]?.getD undef = .bool d1 := hR.val 2 rfl rfl (hall ⟨2, .data⟩ (by simp) rfl)
                exact Oper.wp_value (.bool d1) (by simp [go_sem, e1]) (hK _ _ hR.world rfl (fun _ _ _ h => h) trivial)
              case s4 =>
                intro listed a W hR hJ hsz hun hall K hK
                have g1 : a.tmps[54]?.getD undef = .bool d1 := hR.val 3 rfl rfl (hall ⟨3, .guard⟩ (by simp) rfl)
                cases hd : d1 with
                | false =>
                  rw [hd] at g1
                  rw [if_neg (by rw [wanted_of rfl rfl rfl g1]; decide)]
                  exact hK undef _ hR.world (by intro h; rw [hd] at h; cases h) (fun _ _ _ h => h) trivial
                | true =>
                  rw [hd] at g1
                  rw [if_pos (by rw [wanted_of rfl rfl rfl g1]; rfl)]
                  have e1 : a.tmps[9]?.getD undef = _ := hR.old' 9 (by rfl)
                  simp only [List.getElem?_toArray, List.getElem?_cons_zero, List.getElem?_cons_succ, Option.getD_some] at e1
                  exact Oper.wp_value (.bool b) (by simp [go_sem, e1]) (hK _ _ hR.world (fun _ => rfl) (fun _ _ _ h => h) trivial)
              case s5 =>
                intro listed a W hR hJ hsz hun hall K hK
                rw [if_pos (wanted_none rfl)]
                have e1 : a.tmps[54]?.getD undef = .bool d1 := hR.val 3 rfl rfl (hall ⟨3, .data⟩ (by simp) rfl)
                have e2 : d1 = true → a.tmps[55]?.getD undef = .bool b := hR.val 4 rfl rfl (hall ⟨4, .data⟩ (by simp) rfl)
                cases hd : d1 with
                | false =>
                  rw [hd] at e1
                  exact Oper.wp_value (.bool false) (by simp [go_sem, e1]) (hK _ _ hR.world (show Value.bool false = Value.bool d2 by rw [Hd2.out, hd]; rfl) (fun _ _ _ h => h) trivial)
                | true =>
                  rw [hd] at e1
                  have e2 := e2 hd
                  exact Oper.wp_value (.bool b) (by simp [go_sem, e1, e2]) (hK _ _ hR.world (show Value.bool b = Value.bool d2 by rw [Hd2.out, hd]; rfl) (fun _ _ _ h => h) trivial)
              case s6 =>
                intro listed a W hR hJ hsz hun hall K hK
                rw [if_pos (wanted_none rfl)]
                have e1 : a.tmps[56]?.getD undef = .bool d2 := hR.val 5 rfl rfl (hall ⟨5, .data⟩ (by simp) rfl)
                exact Oper.wp_value (.bool d2) (by simp [go_sem, e1]) (hK _ _ hR.world rfl (fun _ _ _ h => h) trivial)
              case s7 =>
                intro listed a W hR hJ hsz hun hall K hK
                have g1 : a.tmps[57]?.getD undef = .bool d2 := hR.val 6 rfl rfl (hall ⟨6, .guard⟩ (by simp) rfl)
                cases hd : d2 with
                | false =>
                  rw [hd] at g1
                  rw [if_neg (by rw [wanted_of rfl rfl rfl g1]; decide)]
                  exact hK undef _ hR.world (by intro h; rw [hd] at h; cases h) (fun _ _ _ h => h) trivial
                | true =>
                  rw [hd] at g1
                  rw [if_pos (by rw [wanted_of rfl rfl rfl g1]; rfl)]
                  have e1 : a.tmps[7]?.getD undef = _ := hR.old' 7 (by rfl)
                  simp only [List.getElem?_toArray, List.getElem?_cons_zero, List.getElem?_cons_succ, Option.getD_some] at e1
                  have hmw : Mod [] X W := hR.world
                  obtain ⟨c0, c1, c2, c3, c4, c5, c6, c7⟩ := st_cells (hmw.blk HUX.out (by simp))
                  exact Oper.wp_value (stF u) (by simp [go_sem, e1, c0, c1, c2, c3, c4, c5, c6, c7]) (hK _ _ hR.world (fun _ => rfl) (fun _ _ _ h => h) trivial)
              case s8 =>
                intro listed a W hR hJ hsz hun hall K hK
                have g1 : a.tmps[57]?.getD undef = .bool d2 := hR.val 6 rfl rfl (hall ⟨6, .guard⟩ (by simp) rfl)
                cases hd : d2 with
                | false =>
                  rw [hd] at g1
                  rw [if_neg (by rw [wanted_of rfl rfl rfl g1]; decide)]
                  exact hK undef _ hR.world (by intro h; rw [hd] at h; cases h) (fun _ _ _ h => h) trivial
                | true =>
                  rw [hd] at g1
                  rw [if_pos (by rw [wanted_of rfl rfl rfl g1]; rfl)]
                  have e1 : a.tmps[1]?.getD undef = _ := hR.old' 1 (by rfl)
                  simp only [List.getElem?_toArray, List.getElem?_cons_zero, List.getElem?_cons_succ, Option.getD_some] at e1
                  have hmw : Mod [] X W := hR.world
                  obtain ⟨c0, c1, c2, c3, c4, c5, c6, c7⟩ := st_cells (hmw.blk HSX.out (by simp))
                  exact Oper.wp_value (stF s) (by simp [go_sem, e1, c0, c1, c2, c3, c4, c5, c6, c7]) (hK _ _ hR.world (fun _ => rfl) (fun _ _ _ h => h) trivial)
              case s9 =>
                intro listed a W hR hJ hsz hun hall K hK
                have g1 : a.tmps[57]?.getD undef = .bool d2 := hR.val 6 rfl rfl (hall ⟨6, .guard⟩ (by simp) rfl)
                cases hd : d2 with
                | false =>
                  rw [hd] at g1
                  rw [if_neg (by rw [wanted_of rfl rfl rfl g1]; decide)]
                  exact hK undef _ hR.world (by intro h; rw [hd] at h; cases h) (fun _ _ _ h => h) trivial
                | true =>
                  rw [hd] at g1
                  rw [if_pos (by rw [wanted_of rfl rfl rfl g1]; rfl)]
                  have e1 : d2 = true → a.tmps[58]?.getD undef = stF u := hR.val 7 rfl rfl (hall ⟨7, .data⟩ (by simp) rfl)
                  replace e1 := e1 hd
                  have e2 : d2 = true → a.tmps[59]?.getD undef = stF s := hR.val 8 rfl rfl (hall ⟨8, .data⟩ (by simp) rfl)
                  replace e2 := e2 hd
                  have hq := st_eql u s (.tmp 58) (.tmp 59) W
                  refine Oper.wp_value (.bool d3) ?_ (hK _ _ hR.world (fun _ => rfl) (fun _ _ _ h => h) trivial)
                  rw [Hd3.out]
                  have r1 : a.eval (.tmp 58) = stF u := by simpa [Act.eval, Array.getD_eq_getD_getElem?] using e1
                  have r2 : a.eval (.tmp 59) = stF s := by simpa [Act.eval, Array.getD_eq_getD_getElem?] using e2
                  unfold execOp
                  simp only [r1, r2]
                  simp only [Sem.run_bind] at hq ⊢
                  rw [hq]
                  rfl
              case s10 =>
                intro listed a W hR hJ hsz hun hall K hK
                rw [if_pos (wanted_none rfl)]
                have e1 : a.tmps[57]?.getD undef = .bool d2 := hR.val 6 rfl rfl (hall ⟨6, .data⟩ (by simp) rfl)
                have e2 : d2 = true → a.tmps[60]?.getD undef = .bool d3 := hR.val 9 rfl rfl (hall ⟨9, .data⟩ (by simp) rfl)
                cases hd : d2 with
                | false =>
                  rw [hd] at e1
                  exact Oper.wp_value (.bool false) (by simp [go_sem, e1]) (hK _ _ hR.world (show Value.bool false = Value.bool d by rw [Hd.out, hd]; rfl) (fun _ _ _ h => h) trivial)
                | true =>
                  rw [hd] at e1
                  have e2 := e2 hd
                  exact Oper.wp_value (.bool d3) (by simp [go_sem, e1, e2]) (hK _ _ hR.world (show Value.bool d3 = Value.bool d by rw [Hd.out, hd]; rfl) (fun _ _ _ h => h) trivial)
              case s11 =>
                intro listed a W hR hJ hsz hun hall K hK
                rw [if_pos (wanted_none rfl)]
                have e1 : a.tmps[51]?.getD undef = .string (str t) := hR.val 0 rfl rfl (hall ⟨0, .data⟩ (by simp) rfl)
                exact Oper.wp_value (.string (str t)) (by simp [go_sem, e1]) (hK _ _ hR.world rfl (fun _ _ _ h => h) trivial)
              case s12 =>
                intro listed a W hR hJ hsz hun hall K hK
                rw [if_pos (wanted_none rfl)]
                have e1 : a.tmps[61]?.getD undef = .bool d := hR.val 10 rfl rfl (hall ⟨10, .data⟩ (by simp) rfl)
                exact Oper.wp_value (.bool d) (by simp [go_sem, e1]) (hK _ _ hR.world rfl (fun _ _ _ h => h) trivial)
            case fin =>
              intro listed a W hR hl
              have e2 : a.tmps.getD 2 undef = .string (str t) := by rw [Array.getD_eq_getD_getElem?]; exact hR.val 11 rfl rfl (hl 11 (by decide))
              have e3 : a.tmps.getD 3 undef = .bool d := by rw [Array.getD_eq_getD_getElem?]; exact hR.val 12 rfl rfl (hl 12 (by decide))
              have hmw : Mod [] X W := hR.world
              have HM5 := hid (HMX.out.tr hmw)
              have hfr := hR.frame
              clear hR hl hmw HMX HSX HUX
              simp only [List.filterMap_cons, List.filterMap_nil, List.foldl_cons, List.foldl_nil, List.setIfInBounds_toArray, List.set_cons_succ, List.set_cons_zero, e2, e3] at hfr
              generalize a.tmps.getD 51 undef = v51 at hfr
              generalize a.tmps.getD 52 undef = v52 at hfr
              generalize a.tmps.getD 53 undef = v53 at hfr
              generalize a.tmps.getD 54 undef = v54 at hfr
              generalize a.tmps.getD 55 undef = v55 at hfr
              generalize a.tmps.getD 56 undef = v56 at hfr
              generalize a.tmps.getD 57 undef = v57 at hfr
              generalize a.tmps.getD 58 undef = v58 at hfr
              generalize a.tmps.getD 59 undef = v59 at hfr
              generalize a.tmps.getD 60 undef = v60 at hfr
              generalize a.tmps.getD 61 undef = v61 at hfr
              rw [hfr]
              clear hfr e2 e3
              go_wp2_with fail
              refine bodyPost_ret (v := .tuple #[.string (str t), .bool d]) (by simp [results, Tryz.results31, go_sem]) rfl ⟨HM5.out, ?_⟩
              rw [HE.out.1, HDD.out]
        · have hne : (r.ck == s.ck) = false := by simpa using hc
          have HF2 : Hid ((rowsL.drop (j + 1)).find? (fun r => r.kind == s.kind && r.ck == s.ck) = rowsL.find? (fun r => r.kind == s.kind && r.ck == s.ck)) := by
            have h := HF.out
            simp only [hne, Bool.and_false] at h
            exact h.symm
          clear HF hc
          go_wp2_with fail
          go_quiet (fail)
          go_wp2_with fail
          go_roundg (gk - 1)
          case measure => omega
          case rel => exact ⟨j + 1, by go_num, by omega, HF2, hM.out.drewN _⟩
      · have hne : (r.kind == s.kind) = false := by simpa using hk
        have HF2 : Hid ((rowsL.drop (j + 1)).find? (fun r => r.kind == s.kind && r.ck == s.ck) = rowsL.find? (fun r => r.kind == s.kind && r.ck == s.ck)) := by
          have h := HF.out
          simp only [hne, Bool.false_and] at h
          exact h.symm
        clear HF hk
        go_wp2_with fail
        go_quiet (fail)
        go_wp2_with fail
        go_roundg (gk - 1)
        case measure => omega
        case rel => exact ⟨j + 1, by go_num, by omega, HF2, hM.out.drewN _⟩
    · have k0 : ¬ (j : Int) < 18 := by omega
      have HRO : Hid (rowOf s = none) := by
        show _ = _
        rw [HF0.out, ← hF.out, List.drop_eq_nil_of_le (show rowsL.length ≤ j by show 18 ≤ j; omega)]
        rfl
      have HE : Hid (out2 s = [] ∧ ok2 s = false) := ⟨by unfold out2; rw [HRO.out], by unfold ok2; rw [HRO.out]⟩
      clear hF
      go_wp2_with fail
      refine bodyPost_ret (v := .tuple #[.string ⟨#[]⟩, .bool false]) (by simp [results, Tryz.results31, go_sem]) rfl ⟨HMR.out, ?_⟩
      rw [HE.out.1, HE.out.2]
end
end Go.Proofs.YtibhkldnimfnkaaGreatDoor

/- Script, the reference: steps are printed; ScriptPrints. -/
namespace Go.Proofs.YtibhkldnimfnkaaGreatDoor
section
set_option linter.unusedVariables false
set_option linter.unusedSimpArgs false
set_option linter.unusedSectionVars false
open Go.RowKit

theorem printN_cons2 (s : St) (l : List St) (o : Bs) : printN (s :: l) o = if ok2 s = true then printN l (o ++ (out2 s ++ [10])) else none := by
  rw [printN, ← line_eq]
  cases ok2 s <;> rfl

set_option maxRecDepth 100000 in
set_option maxHeartbeats 4000000 in
theorem Print_r (l : List St) (v : Value) (w : World) (hv : StsV w v l) (hok : ∀ s ∈ l, StOk s) :
    Calls Tryz.prog 16 #[v] w fun e w' => Mod [] w w' ∧ e = .returned (.tuple #[.string (str (printL l).1), .int .i64 ((printL l).2 : Int)]) := by
  have HV := hid hv
  obtain ⟨a, cap, rfl, hl63, _⟩ := hv
  have HOK := hid hok
  have HP : Hid (printL l = if 4096 < l.length then ([], 3) else match printN l [] with | none => ([], 2) | some o => (o, 0)) := rfl
  clear hok
  by_cases hlong : 4096 < l.length
  · have HP2 : Hid (printL l = ([], 3)) := by show _ = _; rw [HP.out, if_pos hlong]
    have g1 : (4096 : Int) < (l.length : Int) := by omega
    go_enter Tryz.func16, Tryz.ntmps16
    go_wp2_with fail
    refine bodyPost_ret (v := .tuple #[.string ⟨#[]⟩, .int .i64 3]) (by simp [results, Tryz.results16, go_sem]) rfl ⟨Mod.refl _ _, ?_⟩
    rw [HP2.out]
    rfl
  · have g1 : ¬ (4096 : Int) < (l.length : Int) := by omega
    have HPN : Hid (printL l = match printN l [] with | none => ([], 2) | some o => (o, 0)) := by show _ = _; rw [HP.out, if_neg hlong]
    have hln : (l.length : Int) ≤ 4096 := by omega
    clear HP
    go_enter Tryz.func16, Tryz.ntmps16
    go_wp2_with fail
    go_loopg [4, 5] l.length (fun g u i wr => ∃ (j : Nat) (o : Bs), u = .string (str o) ∧ i = .int .i64 (j : Int) ∧ j + g = l.length ∧ Hid (o.length ≤ j * 6000020) ∧ Hid (printN (l.drop j) o = printN l []) ∧ Hid (Mod [] w wr))
    · exact ⟨0, [], rfl, rfl, by omega, hid (by simp), hid rfl, hid (Mod.refl _ _)⟩
    · obtain ⟨j, o, rfl, rfl, hj, hO, hA, hM⟩ := hrel
      by_cases hlt : j < l.length
      · obtain ⟨s, hs⟩ : ∃ s, l[j]? = some s := ⟨_, List.getElem?_eq_getElem hlt⟩
        obtain ⟨b, off, rfl, c0, c1, c2, c3, c4, c5, c6, c7⟩ := (HV.out.mod hM.out).at hs
        have hj0 : (0 : Int) ≤ (j : Int) := by omega
        have hj1 : (j : Int) < (l.length : Int) := by omega
        have HSO := hid (HOK.out s (List.mem_of_getElem? hs))
        have hA1 := hA.out
        rw [drop_at hs, printN_cons2] at hA1
        have HA1 := hid hA1
        have HPC := hid (Line_r s wr HSO.out)
        clear hs hA hA1
        go_wp2_with fail
        refine HPC.out.mono ?_
        rintro e w2 ⟨hm2, rfl⟩
        have HM2 := hid (hM.out.tr hm2)
        have hol := out2_len HSO.out
        obtain ⟨t, htt⟩ : ∃ t, t = out2 s := ⟨_, rfl⟩
        rw [← htt] at HA1 hol ⊢
        obtain ⟨z, hz⟩ : ∃ z, z = ok2 s := ⟨_, rfl⟩
        rw [← hz] at HA1 ⊢
        clear HPC hm2 htt hz hM c0 c1 c2 c3 c4 c5 c6 c7
        cases z with
        | false =>
          have HR : Hid (printL l = ([], 2)) := by
            show _ = _
            rw [HPN.out, ← HA1.out]
            rfl
          go_wp2_with fail
          refine bodyPost_ret (v := .tuple #[.string ⟨#[]⟩, .int .i64 2]) (by simp [results, Tryz.results16, go_sem]) rfl ⟨HM2.out, ?_⟩
          rw [HR.out]
          rfl
        | true =>
          have HA2 : Hid (printN (l.drop (j + 1)) (o ++ (t ++ [10])) = printN l []) := HA1.out
          have hz1 : (str o).size = o.length := str_len o
          have hz2 : (str t).size = t.length := str_len t
          have hz3 : (str (o ++ t)).size = o.length + t.length := by rw [str_len]; simp
          have hob : o.length ≤ 30000000000 := by have := hO.out; omega
          have E1 : str o ++ str t = str (o ++ t) := str_cat o t
          have E2 : str (o ++ t) ++ (⟨#[10]⟩ : ByteArray) = str (o ++ (t ++ [10])) := by rw [← List.append_assoc]; exact str_cat (o ++ t) [10]
          have HO2 : Hid ((o ++ (t ++ [10])).length ≤ (j + 1) * 6000020) := by show _ ≤ _; have := hO.out; simp only [List.length_append, List.length_cons, List.length_nil]; omega
          clear hO HA1
          go_wp2_with fail
          go_roundg (gk - 1)
          case measure => omega
          case rel => exact ⟨j + 1, _, rfl, by go_num, by omega, HO2, HA2, HM2⟩
      · obtain rfl : j = l.length := by omega
        have HR : Hid (printL l = (o, 0)) := by
          show _ = _
          rw [HPN.out, ← hA.out, List.drop_length]
          rfl
        clear hA
        go_wp2_with fail
        refine bodyPost_ret (v := .tuple #[.string (str o), .int .i64 0]) (by simp [results, Tryz.results16, go_sem]) rfl ⟨hM.out, ?_⟩
        rw [HR.out]
        rfl

set_option maxRecDepth 100000 in
set_option maxHeartbeats 4000000 in
theorem prints_c (l : List St) (v : Value) (w : World) (hv : StsV w v l) (hl : ∀ s ∈ l, StB s) (hw : WOk w) :
    Calls Tryz.prog 4 #[v] w fun e w' => e = .returned (.bool true) ∧ Mod [] w w' := by
  have HW := hid hw
  have HV := hid hv
  have HB := hid hl
  clear hv hl hw
  go_enter Tryz.func4, Tryz.ntmps4
  go_wp2_with fail
  refine (cut_c l v w HV.out).mono ?_
  rintro e w2 ⟨hm, v2, L2, rfl, ho⟩
  have HM2 := hid hm
  have HS2 := hid ho.sts
  clear hm ho
  go_wp2_with fail
  refine (print_c (cutL l) v2 w2 HS2.out (cut_ok HB.out) ((HW.out.mod HM2.out).tab)).mono ?_
  rintro e w3 ⟨hm, rfl⟩
  have HM3 := hid (HM2.out.tr hm)
  have HS3 := hid (HS2.out.mod hm)
  clear hm HM2 HS2
  go_wp2_with fail
  refine (Print_r (cutL l) v2 w3 HS3.out (cut_ok HB.out)).mono ?_
  rintro e w4 ⟨hm, rfl⟩
  have HM4 := hid (HM3.out.tr hm)
  clear hm HM3 HS3
  obtain ⟨o, c, hpr⟩ : ∃ o c, printL (cutL l) = (o, c) := ⟨_, _, rfl⟩
  rw [hpr]
  simp only
  clear hpr HB HV
  go_wp2_with fail
  refine (works_c w4 (HW.out.mod HM4.out)).mono ?_
  rintro e w5 ⟨rfl, hm⟩
  have HM5 := hid (HM4.out.tr hm)
  clear hm
  go_wp2_with fail
  go_ret
  exact ⟨rfl, HM5.out⟩
theorem prints_said {H : Type} {enc : TypeId × Value → H} {base : Nat} {spare : Nat → Bool} {held : Bool} (a : Option Addr) (len cap : Nat) (W : World) {d : DataW H} {p : List MemPlace} (hw : WOk W)
    (h : DataW.Trod enc Tryz.prog W base spare held 22 (.slice a len cap) d p) :
    Calls Tryz.prog 4 #[.slice a len cap] W fun e w' => e = .returned (.bool true) ∧ Mod [] W w' := by
  obtain ⟨xs, hv, hok⟩ := open_steps h
  exact prints_c xs _ W hv hok hw
end
end Go.Proofs.YtibhkldnimfnkaaGreatDoor
