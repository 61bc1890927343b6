/- Script: parts WA WB WC WD. -/
import Derived.Test.YtibhkldnimfnkaaGreatDoorG16
import Derived.Shelf.Vars
import Derived.Lib.LaidTab
import Derived.LaidSub
import Derived.LaidHandle
import Derived.Deep.DeepHandedRow
import Derived.ProofKit
import Derived.OpenShut
import Derived.Deep.Slices
import Derived.Deep.Strs
import Derived.ChangeSame

/- Script: what the rows' conditions give: the listed variables. -/
namespace Go.Proofs.YtibhkldnimfnkaaGreatDoor
section
set_option linter.unusedVariables false
set_option linter.unusedSimpArgs false
set_option linter.unusedSectionVars false
open Go.RowKit

/-- The rows' list. -/
abbrev laidL : List (String × DataW Unit) := [("math/bits.deBruijn32tab", Rows.laid_math_bits_deBruijn32tab), ("math/bits.deBruijn64tab", Rows.laid_math_bits_deBruijn64tab), ("internal/strconv.uint64pow10", Rows.laid_internal_strconv_uint64pow10), ("unicode/utf8.acceptRanges", Rows.laid_unicode_utf8_acceptRanges), ("errors.errorType", Rows.laid_errors_errorType), ("strconv.ErrRange", Rows.laid_strconv_ErrRange), ("strconv.ErrSyntax", Rows.laid_strconv_ErrSyntax), ("unicode/utf8.first", Rows.laid_unicode_utf8_first)]
theorem lists_same : Rows.scriptReadsRow.laid = laidL ∧ Rows.scriptPrintsRow.laid = laidL ∧ Rows.scriptLongRow.laid = laidL ∧ Rows.scriptBackRow.laid = laidL ∧ Rows.scriptKnownRow.laid = laidL ∧ Rows.scriptBlankRow.laid = laidL := ⟨rfl, rfl, rfl, rfl, rfl, rfl⟩
theorem own : ownKnob Tryz.prog.godebug = none := by kernel_rfl
theorem et_glob : Tryz.prog.globalNamed "errors.errorType" = some 0 := by kernel_rfl
theorem rt_type : (Tryz.prog.cutTypes.find? (·.1 == "internal/reflectlite.rtype")).map (·.2) = some 147 := by kernel_rfl
theorem one_row : ((List.range 321).filter fun t => Tryz.prog.rowNamed t [101, 114, 114, 111, 114]) = [24] := by kernel_rfl
theorem types_size : Tryz.prog.types.size = 321 := by kernel_rfl
theorem pow10_type : (Tryz.prog.globals[4]?).map (·.type) = some 230 := by kernel_rfl
theorem pow10_cells : Tryz.prog.cellsOf 230 = 20 := by kernel_rfl
theorem u64_cells : Tryz.prog.cellsOf 42 = 1 := by kernel_rfl
theorem pow10_data : (Rows.laid_internal_strconv_uint64pow10 : DataW Unit) = Lib.tabData .u64 Lib.pow10Tab := by kernel_rfl

theorem tab_of {W : World} (h : laidMetH Tryz.prog laidL W) : Tab W := by
  have h1 := h.filter (fun x => x.1 == "internal/strconv.uint64pow10")
  have h2 : laidMet Tryz.prog [("internal/strconv.uint64pow10", Rows.laid_internal_strconv_uint64pow10)] W := h1
  rw [pow10_data] at h2
  exact Lib.tabIs_of_head (rest := []) tab_glob pow10_type Tryz.underlying230 Tryz.underlying42 u64_cells pow10_cells h2
theorem as_of {W : World} (h : laidMetH Tryz.prog laidL W) : AsOk W := by
  have h1 := h.filter (fun x => x.1 == "errors.errorType")
  have h' : laidMet Tryz.prog [] W ∧ handlesMet Tryz.prog [("errors.errorType", Rows.laid_errors_errorType)] W := h1
  obtain ⟨name, u, ty, e1, e2, e3, e4, e5⟩ := h'.2 _ (List.mem_singleton.2 rfl)
  have en : name = [101, 114, 114, 111, 114] := (Option.some.inj e1).symm
  subst en
  obtain rfl := Option.some.inj (rt_type.symm.trans e2)
  have hm : ty ∈ (List.range 321).filter fun t => Tryz.prog.rowNamed t [101, 114, 114, 111, 114] := List.mem_filter.2 ⟨List.mem_range.2 (by rw [← types_size]; exact e3), e4⟩
  rw [one_row] at hm
  obtain rfl := List.mem_singleton.1 hm
  have hh : typeHandle Tryz.prog 24 = .pointer (some ⟨9, 24, none⟩) := by kernel_rfl
  rw [hh] at e5
  have := World.var?_cell et_glob e5 0
  unfold AsOk
  simpa using this
theorem mx_of {W : World} (h : W.ShapedOpen Tryz.prog) : MaxL W :=
  cell_of_shapedOpen_int (P := Tryz.prog) (g := 1) (t := 3) (zero := #[.int .i64 0]) (k := .i64) h (of_decide_eq_true (by kernel_rfl)) (by kernel_rfl) rfl (by kernel_rfl) (by kernel_rfl) Tryz.underlying3
theorem wok_of {W : World} (h : laidMetH Tryz.prog laidL W) (hs : W.ShapedOpen Tryz.prog) : WOk W := ⟨tab_of h, mx_of hs, as_of h⟩

/-- A listed variable's cells. -/
def litV : Lit → Value
  | .int k n => .int k n
  | .bool b => .bool b
  | .string s => .string ⟨s.toArray⟩
  | _ => undef
def dataC : Nat → DataW Unit → List Value
  | 0, _ => []
  | _ + 1, .lit l => [litV l]
  | n + 1, .agg l => l.flatMap (dataC n)
  | _ + 1, _ => []
/-- A WORLD FOR THE WITNESS: the settled one, with what is listed laid. -/
noncomputable def laidWorld (os : Os) : World :=
  let w0 := World.holding Tryz.prog os ⟨#[], #[], []⟩
  let put (c : Array Value) : Obj → Obj := fun
    | .cells _ t frozen => .cells c t frozen
    | o => o
  let h := w0.heap
  let h := h.modify 0 (put #[.iface 147 (.agg #[.pointer (some ⟨9, 24, none⟩)])])
  let h := h.modify 2 (put (dataC 3 Rows.laid_unicode_utf8_first).toArray)
  let h := h.modify 3 (put (dataC 3 Rows.laid_unicode_utf8_acceptRanges).toArray)
  let h := h.modify 4 (put (dataC 3 Rows.laid_internal_strconv_uint64pow10).toArray)
  let h := h.modify 5 (put #[.iface 250 (.pointer (some ⟨w0.heap.size, 0, none⟩))])
  let h := h.modify 6 (put #[.iface 250 (.pointer (some ⟨w0.heap.size + 1, 0, none⟩))])
  let h := h.modify 7 (put (dataC 3 Rows.laid_math_bits_deBruijn32tab).toArray)
  let h := h.modify 8 (put (dataC 3 Rows.laid_math_bits_deBruijn64tab).toArray)
  let h := h.push (.cells #[.string ⟨#[105, 110, 118, 97, 108, 105, 100, 32, 115, 121, 110, 116, 97, 120]⟩] 252 (0, 0))
  let h := h.push (.cells #[.string ⟨#[118, 97, 108, 117, 101, 32, 111, 117, 116, 32, 111, 102, 32, 114, 97, 110, 103, 101]⟩] 252 (0, 0))
  { w0 with heap := h }
theorem laidWorld_met (os : Os) (args : Array Value) : laidMetH Tryz.prog laidL ((laidWorld os).forCall (fun _ _ => 0) ⟨#[], args, []⟩).memory :=
  laidMetH_of_parts (laidMet_of_run' 400 (by kernel_rfl) (by kernel_rfl)) (by kernel_rfl)
end
end Go.Proofs.YtibhkldnimfnkaaGreatDoor

/- Script: cut. -/
namespace Go.Proofs.YtibhkldnimfnkaaGreatDoor
section
set_option linter.unusedVariables false
set_option linter.unusedSimpArgs false
set_option linter.unusedSectionVars false
open Go.RowKit

/-- A step with short texts; at most eighty. -/
def cutS (s : St) : St := { s with key := s.key.take 40, hi := s.hi.take 40, val := s.val.take 40 }
def cutL (l : List St) : List St := (l.take 80).map cutS
theorem cutL_len (l : List St) : (cutL l).length ≤ 80 := by simp [cutL]; omega
theorem cut_snoc {l : List St} {j : Nat} {s : St} (hs : l[j]? = some s) : (l.take (j + 1)).map cutS = (l.take j).map cutS ++ [cutS s] := by
  rw [List.take_add_one, hs]
  simp

theorem take_min (t : Bs) : t.take (min t.length 40) = t.take 40 := by
  rcases Nat.le_total t.length 40 with h | h
  · rw [Nat.min_eq_left h, List.take_of_length_le (Nat.le_refl _), List.take_of_length_le h]
  · rw [Nat.min_eq_right h]

theorem ext40 (t : Bs) : (str t).extract 0 (min (t.length : Int) 40).toNat = str (t.take 40) := by
  have e : (min (t.length : Int) 40).toNat = min t.length 40 := by omega
  rw [e]
  have h := Lib.extract_from_zero (str t) (min t.length 40)
  rw [← str_byt ((str t).extract 0 (min t.length 40))]
  show str (((str t).extract 0 (min t.length 40)).data.toList) = _
  rw [h, show (str t).data.toList = t from rfl, take_min]
set_option maxRecDepth 100000 in
set_option maxHeartbeats 4000000 in
theorem cut_c (l : List St) (v : Value) (w : World) (hv : StsV w v l) :
    Calls Tryz.prog 14 #[v] w fun e w' => Mod [] w w' ∧ ∃ v' L, e = .returned v' ∧ Own w' 46 8 v' (cutL l).length (flat stC (cutL l)) L := by
  have HV := hid hv
  obtain ⟨a, cap, rfl, hl63, _⟩ := hv
  have hex := ext40
  go_enter Tryz.func14, Tryz.ntmps14
  go_wp2_with fail
  go_loopg [3, 4] (min l.length 80) (fun g vo i wr => ∃ (j : Nat) (L : List Nat), i = .int .i64 j ∧ j + g = min l.length 80 ∧ Hid (Own wr 46 8 vo j (flat stC ((l.take j).map cutS)) L) ∧ Hid (∀ k ∈ L, w.heap.size ≤ k) ∧ Hid (Mod [] w wr))
  · exact ⟨0, [], rfl, by omega, Own.nil _ _ _, hid (by simp), hid (Mod.refl _ _)⟩
  · obtain ⟨j, L, rfl, hj, hO, hL, hM⟩ := hrel
    by_cases hlt : j < min l.length 80
    · obtain ⟨s, hs⟩ : ∃ s, l[j]? = some s := ⟨_, List.getElem?_eq_getElem (by omega)⟩
      obtain ⟨b, off, rfl, c0, c1, c2, c3, c4, c5, c6, c7⟩ := (HV.out.mod hM.out).at hs
      have hj0 : (0 : Int) ≤ (j : Int) := by omega
      have hj1 : (j : Int) < (l.length : Int) := by omega
      have hj2 : (j : Int) < 80 := by omega
      have hjl : j < l.length := by omega
      have HCS := hid (cut_snoc hs)
      clear hs
      obtain ⟨a2, c2, rfl, hv2⟩ := hO.out.val
      obtain ⟨X, hX⟩ : ∃ X, X = (wr.alloc (.cells (stA (cutS s)) 46)).alloc (.cells (stA (cutS s)) 46) := ⟨_, rfl⟩
      have hmX : Mod [] wr X := by rw [hX]; exact ((Mod.refl [] wr).alloc _).alloc _
      have hzX : (wr.alloc (.cells (stA (cutS s)) 46)).heap.size = wr.heap.size + 1 := by simp
      have HOX := hid (hO.out.mod hmX (by simp))
      have hbt : Blk X (wr.heap.size + 1) (stA (cutS s)) 46 := by rw [hX, ← hzX]; exact Blk.new _ _ _
      have HR : Hid (Rdl X 8 (.slice (some ⟨wr.heap.size + 1, 0, none⟩) 1 1) 1 (stC (cutS s))) := by
        refine ⟨rfl, Or.inr ⟨wr.heap.size + 1, 0, 1, rfl, fun j hj => ?_⟩⟩
        rw [Nat.zero_add, hbt.cell]
        exact List.getElem?_toArray
      have HMX := hid (hM.out.tr hmX)
      have hone := st_lays.one (cutS s)
      have HL := hid hL.out
      have HX := hid hX
      rw [hX] at HOX HR
      clear hbt hmX hzX hO hM hL hv2
      go_wp2_with (at_builtin; refine wpList_append_rdl rfl (.tmp 53) (.tmp 55) 22 46 rfl Tryz.underlying22 st_el rfl (by decide) rfl HOX.out rfl HR.out hone (by omega) (by omega) ?_; intro v1 w2 L1 g2 g3 g4)
      have HO2 : Hid (Own w2 46 8 v1 (j + 1) (flat stC ((l.take (j + 1)).map cutS)) L1) := by
        have e : flat stC ((l.take (j + 1)).map cutS) = flat stC ((l.take j).map cutS) ++ stC (cutS s) := by rw [HCS.out]; simp [flat]
        show Own _ _ _ _ _ _ _
        rw [e]
        exact g2.out
      have HM2 : Hid (Mod [] w w2) := HMX.out.trans (by rw [HX.out]; exact g3.out) (fun _ h _ => h) (fun y hy hlt => by have := HL.out y hy; omega)
      have HL2 : Hid (∀ k ∈ L1, w.heap.size ≤ k) := fun k hk => by
        rcases g4.out k hk with h | h
        · exact HL.out k h
        · have := HMX.out.size; rw [HX.out] at this; exact Nat.le_trans this h
      clear g2 g3 g4
      go_roundg (gk - 1)
      case measure => omega
      case rel => exact ⟨j + 1, L1, by go_num, by omega, HO2, HL2, HM2⟩
    · have hjm : j = min l.length 80 := by omega
      have HO2 : Hid (Own wr 46 8 u3 (cutL l).length (flat stC (cutL l)) L) := by
        have := hO.out
        have e1 : l.take j = l.take 80 := by
          rw [hjm]
          rcases Nat.le_total l.length 80 with h | h
          · rw [Nat.min_eq_left h, List.take_of_length_le (Nat.le_refl _), List.take_of_length_le h]
          · rw [Nat.min_eq_right h]
        rw [e1] at this
        have e2 : (cutL l).length = j := by simp [cutL]; omega
        show Own _ _ _ _ _ _ _
        rw [e2]
        exact this
      have HM2 := hid hM.out
      clear hO hM hL
      by_cases hll : j < l.length
      · have g1 : (j : Int) < (l.length : Int) := by omega
        have g2 : ¬ (j : Int) < 80 := by omega
        go_wp2_with fail
        go_ret
        exact ⟨HM2.out, _, rfl, L, HO2.out⟩
      · have g1 : ¬ (j : Int) < (l.length : Int) := by omega
        go_wp2_with fail
        go_ret
        exact ⟨HM2.out, _, rfl, L, HO2.out⟩
end
end Go.Proofs.YtibhkldnimfnkaaGreatDoor

/- Script: ScriptBack. -/
namespace Go.Proofs.YtibhkldnimfnkaaGreatDoor
section
set_option linter.unusedVariables false
set_option linter.unusedSimpArgs false
set_option linter.unusedSectionVars false
open Go.RowKit

/-- A step that Go has. -/
structure StB (s : St) : Prop where
  a0 : -9223372036854775808 ≤ s.a
  a1 : s.a ≤ 9223372036854775807
  b0 : -9223372036854775808 ≤ s.b
  b1 : s.b ≤ 9223372036854775807
  ts : s.ts < 18446744073709551616
theorem cut_ok {l : List St} (h : ∀ s ∈ l, StB s) : ∀ s ∈ cutL l, StOk s := by
  intro s hs
  obtain ⟨t, ht, rfl⟩ := List.mem_map.1 hs
  obtain ⟨h1, h2, h3, h4, h5⟩ := h t (List.mem_of_mem_take ht)
  exact ⟨h1, h2, h3, h4, h5, by simp [cutS]; omega, by simp [cutS]; omega, by simp [cutS]; omega⟩
theorem Fit.ok {s : St} (h : Fit s) : StOk s :=
  ⟨by have := h.a0; omega, by have := h.a1; omega, by have := h.b0; omega, by have := h.b1; omega, by have := h.ts; omega, by have := h.key; omega, by have := h.hi; omega, by have := h.val; omega⟩
theorem Was.ok {s : St} (h : Was s) : StOk s := by obtain ⟨x, hx⟩ := h; exact (line_fit hx).ok
theorem printP_len (p : Pl) {s : St} (h : Fit s) : (printP p s).length ≤ 60 := by
  have hd : ∀ n, (digitsL n).length ≤ 60 := fun n => by
    have : ∀ (f n : Nat), (digitsN f n).length ≤ f := by
      intro f
      induction f with
      | zero => intro n; simp [digitsN]
      | succ f ih =>
        intro n
        unfold digitsN
        split
        · simp
        · have := ih (n / 10); simp; omega
    exact Nat.le_trans (this 20 n) (by decide)
  cases p with
  | nA lo hi => exact hd _
  | nB lo hi => exact hd _
  | ts => exact hd _
  | who => show (if s.a % 2 = 0 then tcB else dcB).length ≤ _; split <;> decide
  | key lo => have := quote_len s.key; have := h.key; show (quoteL s.key).length ≤ _; omega
  | hi => have := quote_len s.hi; have := h.hi; show (quoteL s.hi).length ≤ _; omega
  | val => have := quote_len s.val; have := h.val; show (quoteL s.val).length ≤ _; omega
theorem printR_len {r : Rw} (hr : r ∈ rowsL) {s : St} (h : Fit s) : (printR r s).length ≤ 199 := by
  have h1 := List.all_eq_true.1 rows_len r hr
  have h2 := List.all_eq_true.1 rows_okW r hr
  simp only [Bool.and_eq_true, decide_eq_true_eq] at h1 h2
  have h3 : ∀ (pl : List Pl), (pl.flatMap fun p => 32 :: printP p s).length ≤ pl.length * 61 := by
    intro pl
    induction pl with
    | nil => simp
    | cons p pl ih => have := printP_len p h; simp only [List.flatMap_cons, List.length_append, List.length_cons]; omega
  have := h3 r.pl
  rw [printR_eq, List.length_append]
  omega
theorem printN_len : ∀ (l : List St) (o o' : Bs), printN l o = some o' → o'.length ≤ o.length + l.length * 200 := by
  intro l
  induction l with
  | nil => intro o o' h; simp [printN] at h; subst h; simp
  | cons s l ih =>
    intro o o' h
    unfold printN at h
    cases hp : printedL s with
    | none => rw [hp] at h; cases h
    | some t =>
      rw [hp] at h
      obtain ⟨h1, r, hr, rfl⟩ := printedL_some hp
      have := printR_len hr (line_fit h1)
      have := ih _ _ h
      simp only [List.length_append, List.length_cons, List.length_nil] at this ⊢
      omega
theorem printL_len {l : List St} {o : Bs} (h : printL l = (o, 0)) : o.length ≤ 819200 := by
  unfold printL at h
  split at h
  · simp at h
  · split at h
    · simp at h
    · rename_i o' ho
      cases h
      have := printN_len l [] _ ho
      simp at this
      omega
theorem Own.sts {w : World} {v : Value} {l : List St} {L : List Nat} (ho : Own w 46 8 v l.length (flat stC l) L) : StsV w v l := by
  obtain ⟨a, cap, e1, h1, h2, h3⟩ := ho.val
  refine ⟨a, cap, e1, ho.len, ?_⟩
  cases l with
  | nil => exact .inl rfl
  | cons x l =>
    obtain ⟨g, rfl, _, hc⟩ := h3 (by simp)
    refine .inr ⟨g, 0, rfl, fun i y hy j u hj => ?_⟩
    have hi := (List.getElem?_eq_some_iff.1 hy).1
    have hj8 : j < 8 := by
      have := (List.getElem?_eq_some_iff.1 hj).1
      simpa [stC] using this
    rw [Nat.zero_add, hc (i * 8 + j) (by omega)]
    exact (flat_st _ i y hy j hj8).trans hj
theorem extK (K : Nat) (t : Bs) : (str t).extract 0 (min (t.length : Int) (K : Int)).toNat = str (t.take K) := by
  have e : (min (t.length : Int) (K : Int)).toNat = min t.length K := by omega
  rw [e]
  have h := Lib.extract_from_zero (str t) (min t.length K)
  rw [← str_byt ((str t).extract 0 (min t.length K))]
  show str (((str t).extract 0 (min t.length K)).data.toList) = _
  have e2 : t.take (min t.length K) = t.take K := by
    rcases Nat.le_total t.length K with h | h
    · rw [Nat.min_eq_left h, List.take_of_length_le (Nat.le_refl _), List.take_of_length_le h]
    · rw [Nat.min_eq_right h]
  rw [h, show (str t).data.toList = t from rfl, e2]

set_option maxRecDepth 100000 in
set_option maxHeartbeats 4000000 in
/-- From the second half on: a text. -/
theorem back_c (l : List St) (v : Value) (text : Bs) (w : World) (hv : StsV w v l) (hl : ∀ s ∈ l, StB s) (hw : WOk w) (ht : text.length ≤ 9223372036854775807) :
    Calls Tryz.prog 6 #[v, .string (str text)] w fun e w' => e = .returned (.bool true) ∧ Mod [] w w' := by
  have HW := hid hw
  have HV := hid hv
  have HB := hid hl
  have hex : (str text).extract 0 (min (text.length : Int) 5000).toNat = str (text.take 5000) := extK 5000 text
  have htz : (str text).size = text.length := str_len text
  have ht63 : (text.length : Int) ≤ 9223372036854775807 := by omega
  have HLT : Hid ((text.take 5000).length < 1000000000) := by show _ < _; simp; omega
  clear hv hl hw
  go_enter Tryz.func6, Tryz.ntmps6
  go_wp2_with fail
  refine (works_c w HW.out).mono ?_
  rintro e w1 ⟨rfl, hm⟩
  have HM1 := hid hm
  have HV1 := hid (HV.out.mod hm)
  clear hm HV
  go_wp2_with fail
  refine (cut_c l v w1 HV1.out).mono ?_
  rintro e w2 ⟨hm, v2, L2, rfl, ho⟩
  have HM2 := hid (HM1.out.tr hm)
  have HS2 := hid ho.sts
  clear hm ho HM1 HV1
  go_wp2_with fail
  refine (print_c (cutL l) v2 w2 HS2.out (cut_ok HB.out) ((HW.out.mod HM2.out).tab)).mono ?_
  rintro e w3 ⟨hm, rfl⟩
  have HM3 := hid (HM2.out.tr hm)
  have HS3 := hid (HS2.out.mod hm)
  clear hm HM2 HS2
  obtain ⟨m1, hm1⟩ : ∃ m, m = cutL l := ⟨_, rfl⟩
  rw [← hm1] at HS3 ⊢
  clear hm1 HB
  obtain ⟨o, c, hpr⟩ : ∃ o c, printL m1 = (o, c) := ⟨_, _, rfl⟩
  rw [hpr]
  simp only
  by_cases hc : c = 0
  · subst hc
    have HBK := hid (back1 hpr)
    have HOL := hid (printL_len hpr)
    clear hpr
    go_wp2_with fail
    refine (parse_c o w3 (Nat.lt_of_le_of_lt HOL.out (by decide)) ((HW.out.mod HM3.out).mx)).mono ?_
    intro e w4 hpg
    obtain ⟨hm, vn, ve, n, rfl, hsts, ⟨an, capn, rfl⟩, h⟩ := ParseG.opened hpg
    clear hpg
    have HM4 := hid (HM3.out.tr hm)
    have HS4 := hid (HS3.out.mod hm)
    have HSN := hid hsts
    obtain ⟨rfl, rfl⟩ : n = m1 ∧ ve = .nilIface := by
      rcases h with ⟨hp, rfl⟩ | ⟨c, i, hp, _⟩
      · rw [HBK.out] at hp; cases hp; exact ⟨rfl, rfl⟩
      · rw [HBK.out] at hp; cases hp
    clear h hm hsts HM3 HS3
    go_wp2_with fail
    refine (same_c n n _ _ w4 HS4.out HSN.out).mono ?_
    rintro e w5 ⟨rfl, hm⟩
    have HM5 := hid (HM4.out.tr hm)
    clear hm
    rw [show decide (n = n) = true from decide_eq_true rfl]
    go_wp2_with fail
    refine (parse_c (text.take 5000) w5 HLT.out ((HW.out.mod HM5.out).mx)).mono ?_
    intro e x1 hpg
    obtain ⟨hm, vm, ve, m, rfl, hsts, ⟨am, capm, rfl⟩, h⟩ := ParseG.opened hpg
    clear hpg
    have HX1 := hid (HM5.out.tr hm)
    rcases h with ⟨hp, rfl⟩ | ⟨c2, i2, hp, rfl, b2, rfl, hb2⟩
    · have HSM := hid hsts
      obtain ⟨h1, h2⟩ := parse_was hp
      obtain ⟨u, hu, hback⟩ := back2 hp
      have HWAS := hid h1
      have HU := hid hu
      have HBK := hid hback
      have HUL := hid (printL_len hu)
      clear hp h1 h2 hu hback hm hsts
      go_wp2_with fail
      refine (print_c m _ x1 HSM.out (fun s hs => (HWAS.out s hs).ok) ((HW.out.mod HX1.out).tab)).mono ?_
      rintro e x2 ⟨hm, rfl⟩
      rw [HU.out]
      have HX2 := hid (HX1.out.tr hm)
      have HSM2 := hid (HSM.out.mod hm)
      clear hm HX1 HSM
      go_wp2_with fail
      refine (parse_c u x2 (Nat.lt_of_le_of_lt HUL.out (by decide)) ((HW.out.mod HX2.out).mx)).mono ?_
      intro e x3 hpg
      obtain ⟨hm, vn, ve, n, rfl, hsts, ⟨an, capn, rfl⟩, h⟩ := ParseG.opened hpg
      clear hpg
      have HX3 := hid (HX2.out.tr hm)
      have HSM3 := hid (HSM2.out.mod hm)
      have HSN := hid hsts
      obtain ⟨rfl, rfl⟩ : n = m ∧ ve = .nilIface := by
        rcases h with ⟨hp, rfl⟩ | ⟨c, i, hp, _⟩
        · rw [HBK.out] at hp; cases hp; exact ⟨rfl, rfl⟩
        · rw [HBK.out] at hp; cases hp
      clear h hm hsts HX2 HSM2
      go_wp2_with fail
      refine (same_c n n _ _ x3 HSM3.out HSN.out).mono ?_
      rintro e x4 ⟨rfl, hm⟩
      have HX4 := hid (HX3.out.tr hm)
      clear hm
      rw [show decide (n = n) = true from decide_eq_true rfl]
      go_wp2_with fail
      go_ret
      exact ⟨rfl, HX4.out⟩
    · clear hp hm hsts hb2
      go_wp2_with fail
      go_ret
      exact ⟨rfl, HX1.out⟩
  · have hc2 : ¬ (c : Int) = 0 := by omega
    clear hpr
    go_wp2_with fail
    refine (parse_c (text.take 5000) w3 HLT.out ((HW.out.mod HM3.out).mx)).mono ?_
    intro e x1 hpg
    obtain ⟨hm, vm, ve, m, rfl, hsts, ⟨am, capm, rfl⟩, h⟩ := ParseG.opened hpg
    clear hpg
    have HX1 := hid (HM3.out.tr hm)
    rcases h with ⟨hp, rfl⟩ | ⟨c2, i2, hp, rfl, b2, rfl, hb2⟩
    · have HSM := hid hsts
      obtain ⟨h1, h2⟩ := parse_was hp
      obtain ⟨u, hu, hback⟩ := back2 hp
      have HWAS := hid h1
      have HU := hid hu
      have HBK := hid hback
      have HUL := hid (printL_len hu)
      clear hp h1 h2 hu hback hm hsts
      go_wp2_with fail
      refine (print_c m _ x1 HSM.out (fun s hs => (HWAS.out s hs).ok) ((HW.out.mod HX1.out).tab)).mono ?_
      rintro e x2 ⟨hm, rfl⟩
      rw [HU.out]
      have HX2 := hid (HX1.out.tr hm)
      have HSM2 := hid (HSM.out.mod hm)
      clear hm HX1 HSM
      go_wp2_with fail
      refine (parse_c u x2 (Nat.lt_of_le_of_lt HUL.out (by decide)) ((HW.out.mod HX2.out).mx)).mono ?_
      intro e x3 hpg
      obtain ⟨hm, vn, ve, n, rfl, hsts, ⟨an, capn, rfl⟩, h⟩ := ParseG.opened hpg
      clear hpg
      have HX3 := hid (HX2.out.tr hm)
      have HSM3 := hid (HSM2.out.mod hm)
      have HSN := hid hsts
      obtain ⟨rfl, rfl⟩ : n = m ∧ ve = .nilIface := by
        rcases h with ⟨hp, rfl⟩ | ⟨c, i, hp, _⟩
        · rw [HBK.out] at hp; cases hp; exact ⟨rfl, rfl⟩
        · rw [HBK.out] at hp; cases hp
      clear h hm hsts HX2 HSM2
      go_wp2_with fail
      refine (same_c n n _ _ x3 HSM3.out HSN.out).mono ?_
      rintro e x4 ⟨rfl, hm⟩
      have HX4 := hid (HX3.out.tr hm)
      clear hm
      rw [show decide (n = n) = true from decide_eq_true rfl]
      go_wp2_with fail
      go_ret
      exact ⟨rfl, HX4.out⟩
    · clear hp hm hsts hb2
      go_wp2_with fail
      go_ret
      exact ⟨rfl, HX1.out⟩
end
end Go.Proofs.YtibhkldnimfnkaaGreatDoor

/- Script: the laws' arguments. -/
namespace Go.Proofs.YtibhkldnimfnkaaGreatDoor
section
set_option linter.unusedVariables false
set_option linter.unusedSimpArgs false
set_option linter.unusedSectionVars false
open Go.RowKit Go.ChangeShapes Go.WideShapes Go.Deep
set_option maxRecDepth 100000

theorem u64_bnd {n : Int} (h : (Lit.int .u64 n).wf = true) : ∃ k : Nat, n = k ∧ k < 18446744073709551616 := by
  simp [Lit.wf, IntKind.min, IntKind.max, IntKind.signed, IntKind.bits] at h
  obtain ⟨k, rfl⟩ := Int.eq_ofNat_of_zero_le h.1
  exact ⟨k, rfl, by omega⟩
theorem u16_bnd {n : Int} (h : (Lit.int .u16 n).wf = true) : ∃ k : Nat, n = k ∧ k < 65536 := by
  simp [Lit.wf, IntKind.min, IntKind.max, IntKind.signed, IntKind.bits] at h
  obtain ⟨k, rfl⟩ := Int.eq_ofNat_of_zero_le h.1
  exact ⟨k, rfl, by omega⟩
theorem u8_bnd {n : Int} (h : (Lit.int .u8 n).wf = true) : ∃ k : Nat, n = k ∧ k < 256 := by
  simp [Lit.wf, IntKind.min, IntKind.max, IntKind.signed, IntKind.bits] at h
  obtain ⟨k, rfl⟩ := Int.eq_ofNat_of_zero_le h.1
  exact ⟨k, rfl, by omega⟩
theorem i64_bnd {n : Int} (h : (Lit.int .i64 n).wf = true) : -9223372036854775808 ≤ n ∧ n ≤ 9223372036854775807 := by
  simp [Lit.wf, IntKind.min, IntKind.max, IntKind.signed, IntKind.bits] at h
  omega
theorem seq_sub {X : Type} {p : X → Prop} {C : Nat} {f : X → List Value} {w : World} {a : Option Addr} {xs : List {x : X // p x}} (h : IsSeq C (fun x => f x.1) w a xs) : IsSeq C f w a (xs.map Subtype.val) := by
  rcases h with rfl | ⟨b, off, rfl, hc⟩
  · exact Or.inl rfl
  · refine Or.inr ⟨b, off, rfl, fun i x hx j v hj => ?_⟩
    simp only [List.getElem?_map, Option.map_eq_some_iff] at hx
    obtain ⟨y, hy, rfl⟩ := hx
    exact hc i y hy j v hj

section
variable {H : Type} {enc : TypeId × Value → H} {w : World} {base : Nat} {spare : Nat → Bool} {held : Bool}
/-- A call's cells. -/
theorem cl_cells {fuel : Nat} {cs : List Value} {x : DataW H × List MemPlace} (hx : DataW.trod enc Tryz.prog w base spare held fuel 44 cs = some x) (hlen : cs.length = 5) :
    ∃ (k : Int) (ts : Nat) (a b c : Bs), cs = [.int .i64 k, .int .u64 (ts : Int), .string (str a), .string (str b), .string (str c)] ∧ ts < 18446744073709551616 := by
  have wi : Tryz.prog.cellsOf 3 = 1 := by kernel_rfl
  have ws : Tryz.prog.cellsOf 9 = 1 := by kernel_rfl
  have wu : Tryz.prog.cellsOf 42 = 1 := by kernel_rfl
  obtain ⟨ys, n, _, _, _, hyl, hf⟩ := DataW.trod_struct Tryz.underlying44 hx
  match cs, hlen, ys, hyl with
  | [v0, v1, v2, v3, v4], _, [y0, y1, y2, y3, y4], _ =>
    have t0 : DataW.trod enc Tryz.prog w base spare held n 3 (([v0, v1, v2, v3, v4].drop 0).take (Tryz.prog.cellsOf 3)) = some y0 := hf 0 _ rfl
    have t1 : DataW.trod enc Tryz.prog w base spare held n 42 (([v0, v1, v2, v3, v4].drop 1).take (Tryz.prog.cellsOf 42)) = some y1 := hf 1 _ rfl
    have t2 : DataW.trod enc Tryz.prog w base spare held n 9 (([v0, v1, v2, v3, v4].drop 2).take (Tryz.prog.cellsOf 9)) = some y2 := hf 2 _ rfl
    have t3 : DataW.trod enc Tryz.prog w base spare held n 9 (([v0, v1, v2, v3, v4].drop 3).take (Tryz.prog.cellsOf 9)) = some y3 := hf 3 _ rfl
    have t4 : DataW.trod enc Tryz.prog w base spare held n 9 (([v0, v1, v2, v3, v4].drop 4).take (Tryz.prog.cellsOf 9)) = some y4 := hf 4 _ rfl
    rw [wi] at t0
    rw [wu] at t1
    rw [ws] at t2 t3 t4
    obtain ⟨n0, e0, _, b0⟩ := DataW.trod_int Tryz.underlying3 t0
    obtain ⟨n1, e1, _, b1⟩ := DataW.trod_int Tryz.underlying42 t1
    obtain ⟨k1, rfl, h1⟩ := u64_bnd b1
    obtain ⟨s2, e2, _, h2⟩ := DataW.trod_string Tryz.underlying9 t2
    obtain ⟨s3, e3, _, h3⟩ := DataW.trod_string Tryz.underlying9 t3
    obtain ⟨s4, e4, _, h4⟩ := DataW.trod_string Tryz.underlying9 t4
    simp at e0 e1 e2 e3 e4
    subst e0 e1 e2 e3 e4
    exact ⟨n0, k1, byt s2, byt s3, byt s4, by rw [str_byt, str_byt, str_byt], h1⟩
/-- A step's cells. -/
theorem st_of_cells {fuel : Nat} {cs : List Value} {x : DataW H × List MemPlace} (hx : DataW.trod enc Tryz.prog w base spare held fuel 46 cs = some x) (hlen : cs.length = 8) : ∃ s : St, cs = stC s ∧ StB s := by
  have wC : Tryz.prog.cellsOf 44 = 5 := by kernel_rfl
  have wi : Tryz.prog.cellsOf 3 = 1 := by kernel_rfl
  obtain ⟨ys, n, _, _, _, hyl, hf⟩ := DataW.trod_struct Tryz.underlying46 hx
  match cs, hlen, ys, hyl with
  | [v0, v1, v2, v3, v4, v5, v6, v7], _, [y0, y1, y2, y3], _ =>
    have t0 : DataW.trod enc Tryz.prog w base spare held n 3 (([v0, v1, v2, v3, v4, v5, v6, v7].drop 0).take (Tryz.prog.cellsOf 3)) = some y0 := hf 0 _ rfl
    have t1 : DataW.trod enc Tryz.prog w base spare held n 3 (([v0, v1, v2, v3, v4, v5, v6, v7].drop 1).take (Tryz.prog.cellsOf 3)) = some y1 := hf 1 _ rfl
    have t2 : DataW.trod enc Tryz.prog w base spare held n 3 (([v0, v1, v2, v3, v4, v5, v6, v7].drop 2).take (Tryz.prog.cellsOf 3)) = some y2 := hf 2 _ rfl
    have t3 : DataW.trod enc Tryz.prog w base spare held n 44 (([v0, v1, v2, v3, v4, v5, v6, v7].drop 3).take (Tryz.prog.cellsOf 44)) = some y3 := hf 3 _ rfl
    rw [wi] at t0 t1 t2
    rw [wC] at t3
    obtain ⟨n0, e0, _, b0⟩ := DataW.trod_int Tryz.underlying3 t0
    obtain ⟨n1, e1, _, b1⟩ := DataW.trod_int Tryz.underlying3 t1
    obtain ⟨n2, e2, _, b2⟩ := DataW.trod_int Tryz.underlying3 t2
    obtain ⟨k, ts, ka, kb, kc, e3, hts⟩ := cl_cells t3 rfl
    obtain ⟨p1, p2⟩ := i64_bnd b1
    obtain ⟨p3, p4⟩ := i64_bnd b2
    simp at e0 e1 e2 e3
    obtain ⟨q0, q1, q2, q3, q4⟩ := e3
    subst e0 e1 e2 q0 q1 q2 q3 q4
    exact ⟨⟨n0, n1, n2, k, ts, ka, kb, kc⟩, rfl, p1, p2, p3, p4, hts⟩
theorem open_steps {a : Option Addr} {len cap : Nat} {d : DataW H} {p : List MemPlace} (h : DataW.Trod enc Tryz.prog w base spare held 22 (.slice a len cap) d p) :
    ∃ xs : List St, StsV w (.slice a len cap) xs ∧ ∀ x ∈ xs, StB x := by
  have h1 : ∃ xs : List {x : St // StB x}, xs.length = len ∧ IsSeq 8 (fun x => stC x.1) w a xs ∧ len ≤ 9223372036854775807 := by
    refine open_seq Tryz.underlying22 (by kernel_rfl) (by decide) (fun x : {x : St // StB x} => stC x.1) ?_ h
    intro fuel cs x hx hlen
    obtain ⟨y, hy, hok⟩ := st_of_cells hx hlen
    exact ⟨⟨y, hok⟩, hy⟩
  obtain ⟨xs, hl, hs, hlen⟩ := h1
  refine ⟨xs.map Subtype.val, ⟨a, cap, by simp [hl], by simp [hl, hlen], seq_sub hs⟩, fun x hx => ?_⟩
  obtain ⟨y, _, rfl⟩ := List.mem_map.1 hx
  exact y.2
end

theorem back_said {H : Type} {enc : TypeId × Value → H} {base : Nat} {spare : Nat → Bool} {held : Bool} (a : Option Addr) (len cap : Nat) (s : ByteArray) (W : World) {d : DataW H} {p : List MemPlace} (hw : WOk W)
    (h : DataW.Trod enc Tryz.prog W base spare held 22 (.slice a len cap) d p) (hs : s.size ≤ 9223372036854775807) :
    Calls Tryz.prog 6 #[.slice a len cap, .string s] W fun e w' => e = .returned (.bool true) ∧ Mod [] W w' := by
  obtain ⟨xs, hv, hok⟩ := open_steps h
  have := back_c xs _ (byt s) W hv hok hw (by rw [byt_len]; exact hs)
  rw [str_byt] at this
  exact this
end
end Go.Proofs.YtibhkldnimfnkaaGreatDoor
