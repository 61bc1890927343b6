/- Script: parts B8 B9 C1. -/
import Derived.Test.YtibhkldnimfnkaaGreatDoorG24

/- Script, the reference: a text is read. -/
namespace Go.Proofs.YtibhkldnimfnkaaGreatDoor
section
set_option linter.unusedVariables false
set_option linter.unusedSimpArgs false
set_option linter.unusedSectionVars false
open Go.RowKit

/-- Lines of a text of which a part was read. -/
def preL (p s : Bs) : List Bs := match linesL s with | [] => [p] | x :: l => (p ++ x) :: l
theorem lines_ne (s : Bs) : linesL s ≠ [] := by
  cases s with
  | nil => simp [linesL]
  | cons c s => rw [linesL]; split; · simp
                · split <;> simp
theorem preL_nil (p : Bs) : preL p [] = [p] := by simp [preL, linesL]
theorem preL_start (s : Bs) : preL [] s = linesL s := by
  unfold preL
  cases h : linesL s with
  | nil => exact absurd h (lines_ne s)
  | cons x l => rfl
theorem preL_nl (p s : Bs) : preL p (10 :: s) = p :: preL [] s := by
  rw [preL_start]
  unfold preL
  rw [linesL]
  simp
theorem preL_c {c : UInt8} (h : ¬ c = 10) (p s : Bs) : preL p (c :: s) = preL (p ++ [c]) s := by
  unfold preL
  rw [linesL, if_neg (by simpa using h)]
  cases linesL s <;> simp
/-- The part of a line that is read. -/
def seg (s : Bs) (f i : Nat) : Bs := (s.drop f).take (i - f)
theorem seg_len (s : Bs) (f i : Nat) : (seg s f i).length ≤ s.length := by unfold seg; rw [List.length_take, List.length_drop]; omega
theorem seg_self (s : Bs) (i : Nat) : seg s i i = [] := by simp [seg]
theorem seg_succ {s : Bs} {f i : Nat} {c : UInt8} (hf : f ≤ i) (h : s[i]? = some c) : seg s f (i + 1) = seg s f i ++ [c] := by
  unfold seg
  rw [show i + 1 - f = (i - f) + 1 by omega, List.take_add_one, List.getElem?_drop, show f + (i - f) = i by omega, h]
  rfl
theorem segs_c {s : Bs} {f i : Nat} {c : UInt8} (hf : f ≤ i) (h : s[i]? = some c) (hc : ¬ c = 10) : preL (seg s f i) (s.drop i) = preL (seg s f (i + 1)) (s.drop (i + 1)) := by
  rw [drop_at h, preL_c hc, seg_succ hf h]
theorem segs_nl {s : Bs} {f i : Nat} (h : s[i]? = some 10) : preL (seg s f i) (s.drop i) = seg s f i :: preL (seg s (i + 1) (i + 1)) (s.drop (i + 1)) := by
  rw [drop_at h, preL_nl, seg_self]
theorem segs_end {s : Bs} {f : Nat} : preL (seg s f s.length) (s.drop s.length) = [seg s f s.length] := by
  rw [List.drop_length, preL_nil]
/-- What comes of reading a text. -/
def ParseR (o : List St ⊕ (Nat × Nat)) (w : World) (e : Ending) (w' : World) : Prop := Mod [] w w' ∧ match o with
  | .inl l => ∃ v L, e = .returned (.tuple #[v, .agg #[.int .i64 0, .int .i64 0]]) ∧ Own w' 46 8 v l.length (flat stC l) L ∧ ∀ k ∈ L, w.heap.size ≤ k
  | .inr (c, i) => e = .returned (.tuple #[.slice none 0 0, .agg #[.int .i64 (c : Int), .int .i64 (i : Int)]])

/-- What stands behind a line's beginning. -/
def PAt (s : Bs) (i f n : Nat) (acc : List St) (o : List St ⊕ (Nat × Nat)) : Prop := if i ≤ s.length then parseN (preL (seg s f i) (s.drop i)) n acc = o else o = .inl acc
theorem PAt.start (s : Bs) : PAt s 0 0 0 [] (parseL s) := by
  unfold PAt
  rw [if_pos (Nat.zero_le _), seg_self, List.drop_zero, preL_start]
  rfl
theorem PAt.on {s : Bs} {i f n : Nat} {acc : List St} {o : List St ⊕ (Nat × Nat)} {c : UInt8} (h : PAt s i f n acc o) (hf : f ≤ i) (hc : s[i]? = some c) (hn : ¬ c = 10) : PAt s (i + 1) f n acc o := by
  have hi := (List.getElem?_eq_some_iff.1 hc).1
  unfold PAt at h ⊢
  rw [if_pos (by omega)] at h
  rw [if_pos (by omega), ← segs_c hf hc hn]
  exact h
/-- A line ends here. -/
theorem PAt.ends {s : Bs} {i f n : Nat} {acc : List St} {o : List St ⊕ (Nat × Nat)} (h : PAt s i f n acc o) (hi : i ≤ s.length) (he : i = s.length ∨ s[i]? = some 10) :
    ∃ l, parseN (seg s f i :: l) n acc = o ∧ ∀ acc', parseN l (n + 1) acc' = o → PAt s (i + 1) (i + 1) (n + 1) acc' o := by
  unfold PAt at h
  rw [if_pos hi] at h
  rcases he with rfl | he
  · rw [segs_end] at h
    refine ⟨[], h, fun acc' h' => ?_⟩
    unfold PAt
    rw [if_neg (by omega)]
    exact h'.symm
  · have hi2 := (List.getElem?_eq_some_iff.1 he).1
    rw [segs_nl he] at h
    refine ⟨_, h, fun acc' h' => ?_⟩
    unfold PAt
    rw [if_pos (by omega)]
    exact h'
theorem seg_str (s : Bs) (f i : Nat) : (((byt (str s)).drop f).take (i - f)) = seg s f i := rfl

theorem res_fault {fn : Func} {u p : Tmp} (h : fn.results = #[.tmp u, .cell p 29]) (tmps : Array Value) (w : World) (g : Nat) (c i : Int) (hp : tmps.getD p undef = .pointer (some ⟨g, 0, none⟩)) (hg : Blk w g #[.int .i64 c, .int .i64 i] 29) :
    (results fn tmps).run Tryz.prog w = .ok (.tuple #[tmps.getD u undef, .agg #[.int .i64 c, .int .i64 i]]) w := by
  have c0 := hg.cell 0
  have c1 := hg.cell 1
  simp only [List.getElem?_toArray, List.getElem?_cons_zero, List.getElem?_cons_succ] at c0 c1
  rw [Array.getD_eq_getD_getElem?] at hp
  simp [results, h, go_sem, hp, c0, c1]
abbrev putF (W : World) (b : Nat) (c i : Int) : World := (W.setCell ⟨b, 0, none⟩ (.int .i64 c)).setCell ⟨b, 1, none⟩ (.int .i64 i)
theorem putF_blk {W : World} {b : Nat} {x y : Value} (c i : Int) (h : Blk W b #[x, y] 29) : Blk (putF W b c i) b #[.int .i64 c, .int .i64 i] 29 := by
  have h8 := (h.set 0 (.int .i64 c)).set 1 (.int .i64 i)
  simp only [List.setIfInBounds_toArray, List.set_cons_succ, List.set_cons_zero] at h8
  exact h8
theorem putF_mod {W : World} {b : Nat} (c i : Int) : Mod [b] W (putF W b c i) := ((Mod.refl [b] W).setCell (p := ⟨b, 0, none⟩) (Or.inl (by simp)) _).setCell (p := ⟨b, 1, none⟩) (Or.inl (by simp)) _

set_option maxRecDepth 100000 in
set_option maxHeartbeats 4000000 in
theorem parse_r0 (hline : ∀ (s : Bs) (w : World), s.length < 4294967000 → Calls Tryz.prog 25 #[.string (str s)] w (LrG (lineL s) w))
    (s : Bs) (w : World) (hs : s.length < 1000000000) : Calls Tryz.prog 10 #[.string (str s)] w (ParseR (parseL s) w) := by
  have HLINE := hid hline
  clear hline
  have hPA := PAt.start s
  obtain ⟨o, ho⟩ : ∃ o, o = parseL s := ⟨_, rfl⟩
  rw [← ho] at hPA ⊢
  clear ho
  obtain ⟨W0, hW0⟩ : ∃ W, W = w.alloc (.cells #[.int .i64 0, .int .i64 0] 29) := ⟨_, rfl⟩
  obtain ⟨fb, hfb⟩ : ∃ b, b = w.heap.size := ⟨_, rfl⟩
  have hm0 : Mod [] w W0 := by rw [hW0]; exact (Mod.refl [] w).alloc _
  have hb0 : Blk W0 fb #[.int .i64 0, .int .i64 0] 29 := by rw [hW0, hfb]; exact Blk.new _ _ _
  have hz0 : W0.heap.size = fb + 1 := by rw [hW0, hfb]; simp
  have HM0 := hid hm0
  have HB0 := hid hb0
  have HW0 := hid hW0
  have Hfb := hid hfb
  have HZ0 := hid hz0
  have HPA := hid hPA
  clear hm0 hb0 hW0 hfb hz0 hPA
  have HS := hid hs
  clear hs
  go_enter Tryz.func10, Tryz.ntmps10
  go_wp2_with fail
  rw [← HW0.out, ← Hfb.out]
  go_loopg [4, 5, 6, 7] (s.length + 1) (fun g vo vf vn vi wr => ∃ (i f n : Nat) (acc : List St) (L : List Nat), vf = .int .i64 (f : Int) ∧ vn = .int .i64 (n : Int) ∧ vi = .int .i64 (i : Int) ∧ i + g = s.length + 1 ∧ f ≤ i ∧ n ≤ i ∧ acc.length ≤ 4096 ∧ Hid (PAt s i f n acc o) ∧ Hid (Own wr 46 8 vo acc.length (flat stC acc) L) ∧ Hid (∀ k ∈ L, fb < k) ∧ Hid (Mod [] W0 wr))
  · exact ⟨0, 0, 0, [], [], rfl, rfl, rfl, by omega, by omega, by omega, by simp, HPA, Own.nil _ _ _, hid (by simp), hid (Mod.refl _ _)⟩
  · obtain ⟨i, f, n, acc, L, rfl, rfl, rfl, hig, hfi, hni, hacc, hP, hO, hL, hM⟩ := hrel
    clear HPA
    by_cases hil : i ≤ s.length
    · have k0 : (i : Int) ≤ (s.length : Int) := by omega
      have hwi : IntKind.i64.wrap ((i : Int) + 1) = (i : Int) + 1 := by rw [IntKind.wrap_i64]; have := HS.out; omega
      have hwn : IntKind.i64.wrap ((n : Int) + 1) = (n : Int) + 1 := by rw [IntKind.wrap_i64]; have := HS.out; omega
      by_cases hi : i < s.length
      · obtain ⟨c, hc⟩ : ∃ c, s[i]? = some c := ⟨_, List.getElem?_eq_getElem hi⟩
        have k1 : (i : Int) < (s.length : Int) := by omega
        have k2 : (0 : Int) ≤ (i : Int) := by omega
        have hix := run_at (str s) i c hc
        by_cases hc10 : c = 10
        · subst hc10
          have HEND : Hid (i = s.length ∨ s[i]? = some 10) := .inr hc
          clear hc
          obtain ⟨rest, hl1, hl2⟩ := PAt.ends hP.out hil HEND.out
          have HL1 := hid hl1
          have HL2 := hid hl2
          have hmid := run_mid (str s) f i hfi (by rw [str_len]; exact hil)
          rw [seg_str] at hmid
          obtain ⟨x, hx⟩ : ∃ x, x = seg s f i := ⟨_, rfl⟩
          have hxl : x.length < 4294967000 := by rw [hx]; have := seg_len s f i; have := HS.out; omega
          rw [← hx] at hmid HL1
          have HLX := hid (HLINE.out x wr hxl)
          clear hl1 hl2 hx hxl hP
          go_wp2_with fail
          refine HLX.out.mono ?_
          rintro e w2 ⟨hm2, he⟩
          have HM2 := hid (hM.out.tr hm2)
          have HO2 := hid (hO.out.mod hm2 (by simp))
          have HE := hid (show parseN (x :: rest) n acc = o from HL1.out)
          clear HLX hO hM hm2
          cases hln : lineL x with
          | blank =>
            rw [hln] at he
            obtain ⟨t, rfl⟩ := he
            have HR : Hid (parseN rest (n + 1) acc = o) := by show _ = _; rw [← HE.out, parseN, hln]
            have HP2 := hid (HL2.out acc HR.out)
            have hmA := (Mod.refl [] w2).alloc (.cells (stA t) 46)
            have HM3 := hid (HM2.out.tr hmA)
            have HO3 := hid (HO2.out.mod hmA (by simp))
            clear hln hmA HM2 HO2 HE HR HL2
            go_wp2_with fail
            go_roundg (gk - 1)
            case measure => omega
            case rel => exact ⟨i + 1, i + 1, n + 1, acc, L, by go_num, by go_num, by go_num, by omega, by omega, by omega, hacc, HP2, HO3, hL, HM3⟩
          | bad c =>
            rw [hln] at he
            obtain ⟨t, rfl⟩ := he
            have hc0 : ¬ (c : Int) = 0 := by have := bad_ne hln; omega
            have HR : Hid (o = .inr (c, n)) := by show _ = _; rw [← HE.out, parseN, hln]
            have hmA := (Mod.refl [] w2).alloc (.cells (stA t) 46)
            have hb2 := (HM2.out.tr hmA).blk HB0.out (by simp)
            have HM3 := hid (HM2.out.tr hmA)
            have HB3 := hid hb2
            have f0 := hb2.cell 0
            have f1 := hb2.cell 1
            have z0 := hb2.free 0
            have z1 := hb2.free 1
            have zl := hb2.lt
            simp only [List.getElem?_toArray, List.getElem?_cons_zero, List.getElem?_cons_succ] at f0 f1
            clear hln hmA hb2 HM2 HO2 HE HL2
            go_wp2_with fail
            show bodyPost Tryz.prog Tryz.f10 _ _ _ (putF (w2.alloc (.cells (stA t) 46)) fb (c : Int) (n : Int))
            refine bodyPost_ret (v := .tuple #[.slice none 0 0, .agg #[.int .i64 (c : Int), .int .i64 (n : Int)]]) ((res_fault rfl _ _ fb (c : Int) (n : Int) rfl (putF_blk _ _ HB3.out)).trans rfl) rfl ⟨(HM0.out.tr HM3.out).trans (putF_mod _ _) (fun _ h _ => h) (fun y hy hlt => by simp at hy; have := Hfb.out; omega), ?_⟩
            rw [HR.out]
          | ok t =>
            rw [hln] at he
            obtain rfl := he
            by_cases hlt : acc.length < 4096
            · have g1 : ¬ (4096 : Int) ≤ (acc.length : Int) := by omega
              have HQ := hid (And.intro hacc (And.intro hig (And.intro hfi (And.intro hni hlt))))
              have HR : Hid (parseN rest (n + 1) (acc ++ [t]) = o) := by show _ = _; rw [← HE.out, parseN, hln]; simp only; rw [if_pos hlt]
              have HP2 := hid (HL2.out _ HR.out)
              obtain ⟨a2, c2, rfl, hv2⟩ := HO2.out.val
              obtain ⟨X, hX⟩ : ∃ X, X = (w2.alloc (.cells (stA t) 46)).alloc (.cells (stA t) 46) := ⟨_, rfl⟩
              have hmX : Mod [] w2 X := by rw [hX]; exact ((Mod.refl [] w2).alloc _).alloc _
              have hzX : (w2.alloc (.cells (stA t) 46)).heap.size = w2.heap.size + 1 := by simp
              have HOX := hid (HO2.out.mod hmX (by simp))
              have hbt : Blk X (w2.heap.size + 1) (stA t) 46 := by rw [hX, ← hzX]; exact Blk.new _ _ _
              have HRD : Hid (Rdl X 8 (.slice (some ⟨w2.heap.size + 1, 0, none⟩) 1 1) 1 (stC t)) := by
                refine ⟨rfl, Or.inr ⟨w2.heap.size + 1, 0, 1, rfl, fun j hj => ?_⟩⟩
                rw [Nat.zero_add, hbt.cell]
                exact List.getElem?_toArray
              have HMX := hid (HM2.out.tr hmX)
              have hone := st_lays.one t
              have HL := hid hL.out
              have HX := hid hX
              rw [hX] at HOX HRD
              clear hbt hmX hzX hL hv2 hln HM2 HO2 HE HL2 HR hacc hig hfi hni hlt
              go_wp2_with (at_builtin; refine wpList_append_rdl rfl (.tmp 52) (.tmp 54) 22 46 rfl Tryz.underlying22 st_el rfl (by decide) rfl HOX.out rfl HRD.out hone (by omega) (by omega) ?_; intro v1 w3 L1 g2 g3 g4)
              have HO3 : Hid (Own w3 46 8 v1 (acc ++ [t]).length (flat stC (acc ++ [t])) L1) := by
                have e : flat stC (acc ++ [t]) = flat stC acc ++ stC t := by simp [flat]
                show Own _ _ _ _ _ _ _
                rw [e, List.length_append]
                exact g2.out
              have HM3 : Hid (Mod [] W0 w3) := HMX.out.trans (by rw [HX.out]; exact g3.out) (fun _ h _ => h) (fun y hy hlt => by have := HL.out y hy; have := HZ0.out; omega)
              have HL3 : Hid (∀ k ∈ L1, fb < k) := fun k hk => by
                rcases g4.out k hk with h | h
                · exact HL.out k h
                · have h1 := HMX.out.size; rw [HX.out] at h1; have h2 := Nat.le_trans h1 h; have := HZ0.out; omega
              clear g2 g3 g4
              obtain ⟨hacc, hig, hfi, hni, hlt⟩ := HQ.out
              go_roundg (gk - 1)
              case measure => omega
              case rel => exact ⟨i + 1, i + 1, n + 1, acc ++ [t], L1, by go_num, by go_num, by go_num, by omega, by omega, by omega, by simp; omega, HP2, HO3, HL3, HM3⟩
            · have g1 : (4096 : Int) ≤ (acc.length : Int) := by omega
              have HQ := hid (And.intro hacc (And.intro hig (And.intro hfi (And.intro hni hlt))))
              have HR : Hid (o = .inr (3, n)) := by show _ = _; rw [← HE.out, parseN, hln]; simp only; rw [if_neg hlt]
              obtain ⟨a2, c2, rfl, hv2⟩ := HO2.out.val
              have hmA := (Mod.refl [] w2).alloc (.cells (stA t) 46)
              have hb2 := (HM2.out.tr hmA).blk HB0.out (by simp)
              have HM3 := hid (HM2.out.tr hmA)
              have HB3 := hid hb2
              have f0 := hb2.cell 0
              have f1 := hb2.cell 1
              have z0 := hb2.free 0
              have z1 := hb2.free 1
              have zl := hb2.lt
              simp only [List.getElem?_toArray, List.getElem?_cons_zero, List.getElem?_cons_succ] at f0 f1
              clear hln hmA hb2 HM2 HO2 HE HL2 hv2 hacc hig hfi hni hlt
              go_wp2_with fail
              show bodyPost Tryz.prog Tryz.f10 _ _ _ (putF (w2.alloc (.cells (stA t) 46)) fb 3 (n : Int))
              refine bodyPost_ret (v := .tuple #[.slice none 0 0, .agg #[.int .i64 3, .int .i64 (n : Int)]]) ((res_fault rfl _ _ fb 3 (n : Int) rfl (putF_blk _ _ HB3.out)).trans rfl) rfl ⟨(HM0.out.tr HM3.out).trans (putF_mod _ _) (fun _ h _ => h) (fun y hy hlt => by simp at hy; have := Hfb.out; omega), ?_⟩
              rw [HR.out]
              rfl
        · have n10 : ¬ (c.toNat : Int) = 10 := fun h => by have := ne_u8 hc10; simp [h] at this
          have HP2 := hid (hP.out.on hfi hc hc10)
          clear hP hc hc10
          go_wp2_with fail
          go_roundg (gk - 1)
          case measure => omega
          case rel => exact ⟨i + 1, f, n, acc, L, rfl, rfl, by go_num, by omega, by omega, by omega, hacc, HP2, hO, hL, hM⟩
      · obtain rfl : i = s.length := by omega
        have k1 : ¬ (s.length : Int) < (s.length : Int) := by omega
        have HEND : Hid (s.length = s.length ∨ s[s.length]? = some 10) := .inl rfl
        obtain ⟨rest, hl1, hl2⟩ := PAt.ends hP.out hil HEND.out
        have HL1 := hid hl1
        have HL2 := hid hl2
        have hmid := run_mid (str s) f s.length hfi (by rw [str_len]; exact hil)
        rw [seg_str] at hmid
        obtain ⟨x, hx⟩ : ∃ x, x = seg s f s.length := ⟨_, rfl⟩
        have hxl : x.length < 4294967000 := by rw [hx]; have := seg_len s f s.length; have := HS.out; omega
        rw [← hx] at hmid HL1
        have HLX := hid (HLINE.out x wr hxl)
        clear hl1 hl2 hx hxl hP
        go_wp2_with fail
        refine HLX.out.mono ?_
        rintro e w2 ⟨hm2, he⟩
        have HM2 := hid (hM.out.tr hm2)
        have HO2 := hid (hO.out.mod hm2 (by simp))
        have HE := hid (show parseN (x :: rest) n acc = o from HL1.out)
        clear HLX hO hM hm2
        cases hln : lineL x with
        | blank =>
          rw [hln] at he
          obtain ⟨t, rfl⟩ := he
          have HR : Hid (parseN rest (n + 1) acc = o) := by show _ = _; rw [← HE.out, parseN, hln]
          have HP2 := hid (HL2.out acc HR.out)
          have hmA := (Mod.refl [] w2).alloc (.cells (stA t) 46)
          have HM3 := hid (HM2.out.tr hmA)
          have HO3 := hid (HO2.out.mod hmA (by simp))
          clear hln hmA HM2 HO2 HE HR HL2
          go_wp2_with fail
          go_roundg (gk - 1)
          case measure => omega
          case rel => exact ⟨s.length + 1, s.length + 1, n + 1, acc, L, by go_num, by go_num, by go_num, by omega, by omega, by omega, hacc, HP2, HO3, hL, HM3⟩
        | bad c =>
          rw [hln] at he
          obtain ⟨t, rfl⟩ := he
          have hc0 : ¬ (c : Int) = 0 := by have := bad_ne hln; omega
          have HR : Hid (o = .inr (c, n)) := by show _ = _; rw [← HE.out, parseN, hln]
          have hmA := (Mod.refl [] w2).alloc (.cells (stA t) 46)
          have hb2 := (HM2.out.tr hmA).blk HB0.out (by simp)
          have HM3 := hid (HM2.out.tr hmA)
          have HB3 := hid hb2
          have f0 := hb2.cell 0
          have f1 := hb2.cell 1
          have z0 := hb2.free 0
          have z1 := hb2.free 1
          have zl := hb2.lt
          simp only [List.getElem?_toArray, List.getElem?_cons_zero, List.getElem?_cons_succ] at f0 f1
          clear hln hmA hb2 HM2 HO2 HE HL2
          go_wp2_with fail
          show bodyPost Tryz.prog Tryz.f10 _ _ _ (putF (w2.alloc (.cells (stA t) 46)) fb (c : Int) (n : Int))
          refine bodyPost_ret (v := .tuple #[.slice none 0 0, .agg #[.int .i64 (c : Int), .int .i64 (n : Int)]]) ((res_fault rfl _ _ fb (c : Int) (n : Int) rfl (putF_blk _ _ HB3.out)).trans rfl) rfl ⟨(HM0.out.tr HM3.out).trans (putF_mod _ _) (fun _ h _ => h) (fun y hy hlt => by simp at hy; have := Hfb.out; omega), ?_⟩
          rw [HR.out]
        | ok t =>
          rw [hln] at he
          obtain rfl := he
          by_cases hlt : acc.length < 4096
          · have g1 : ¬ (4096 : Int) ≤ (acc.length : Int) := by omega
            have HQ := hid (And.intro hacc (And.intro hig (And.intro hfi (And.intro hni hlt))))
            have HR : Hid (parseN rest (n + 1) (acc ++ [t]) = o) := by show _ = _; rw [← HE.out, parseN, hln]; simp only; rw [if_pos hlt]
            have HP2 := hid (HL2.out _ HR.out)
            obtain ⟨a2, c2, rfl, hv2⟩ := HO2.out.val
            obtain ⟨X, hX⟩ : ∃ X, X = (w2.alloc (.cells (stA t) 46)).alloc (.cells (stA t) 46) := ⟨_, rfl⟩
            have hmX : Mod [] w2 X := by rw [hX]; exact ((Mod.refl [] w2).alloc _).alloc _
            have hzX : (w2.alloc (.cells (stA t) 46)).heap.size = w2.heap.size + 1 := by simp
            have HOX := hid (HO2.out.mod hmX (by simp))
            have hbt : Blk X (w2.heap.size + 1) (stA t) 46 := by rw [hX, ← hzX]; exact Blk.new _ _ _
            have HRD : Hid (Rdl X 8 (.slice (some ⟨w2.heap.size + 1, 0, none⟩) 1 1) 1 (stC t)) := by
              refine ⟨rfl, Or.inr ⟨w2.heap.size + 1, 0, 1, rfl, fun j hj => ?_⟩⟩
              rw [Nat.zero_add, hbt.cell]
              exact List.getElem?_toArray
            have HMX := hid (HM2.out.tr hmX)
            have hone := st_lays.one t
            have HL := hid hL.out
            have HX := hid hX
            rw [hX] at HOX HRD
            clear hbt hmX hzX hL hv2 hln HM2 HO2 HE HL2 HR hacc hig hfi hni hlt
            go_wp2_with (at_builtin; refine wpList_append_rdl rfl (.tmp 52) (.tmp 54) 22 46 rfl Tryz.underlying22 st_el rfl (by decide) rfl HOX.out rfl HRD.out hone (by omega) (by omega) ?_; intro v1 w3 L1 g2 g3 g4)
            have HO3 : Hid (Own w3 46 8 v1 (acc ++ [t]).length (flat stC (acc ++ [t])) L1) := by
              have e : flat stC (acc ++ [t]) = flat stC acc ++ stC t := by simp [flat]
              show Own _ _ _ _ _ _ _
              rw [e, List.length_append]
              exact g2.out
            have HM3 : Hid (Mod [] W0 w3) := HMX.out.trans (by rw [HX.out]; exact g3.out) (fun _ h _ => h) (fun y hy hlt => by have := HL.out y hy; have := HZ0.out; omega)
            have HL3 : Hid (∀ k ∈ L1, fb < k) := fun k hk => by
              rcases g4.out k hk with h | h
              · exact HL.out k h
              · have h1 := HMX.out.size; rw [HX.out] at h1; have h2 := Nat.le_trans h1 h; have := HZ0.out; omega
            clear g2 g3 g4
            obtain ⟨hacc, hig, hfi, hni, hlt⟩ := HQ.out
            go_roundg (gk - 1)
            case measure => omega
            case rel => exact ⟨s.length + 1, s.length + 1, n + 1, acc ++ [t], L1, by go_num, by go_num, by go_num, by omega, by omega, by omega, by simp; omega, HP2, HO3, HL3, HM3⟩
          · have g1 : (4096 : Int) ≤ (acc.length : Int) := by omega
            have HQ := hid (And.intro hacc (And.intro hig (And.intro hfi (And.intro hni hlt))))
            have HR : Hid (o = .inr (3, n)) := by show _ = _; rw [← HE.out, parseN, hln]; simp only; rw [if_neg hlt]
            obtain ⟨a2, c2, rfl, hv2⟩ := HO2.out.val
            have hmA := (Mod.refl [] w2).alloc (.cells (stA t) 46)
            have hb2 := (HM2.out.tr hmA).blk HB0.out (by simp)
            have HM3 := hid (HM2.out.tr hmA)
            have HB3 := hid hb2
            have f0 := hb2.cell 0
            have f1 := hb2.cell 1
            have z0 := hb2.free 0
            have z1 := hb2.free 1
            have zl := hb2.lt
            simp only [List.getElem?_toArray, List.getElem?_cons_zero, List.getElem?_cons_succ] at f0 f1
            clear hln hmA hb2 HM2 HO2 HE HL2 hv2 hacc hig hfi hni hlt
            go_wp2_with fail
            show bodyPost Tryz.prog Tryz.f10 _ _ _ (putF (w2.alloc (.cells (stA t) 46)) fb 3 (n : Int))
            refine bodyPost_ret (v := .tuple #[.slice none 0 0, .agg #[.int .i64 3, .int .i64 (n : Int)]]) ((res_fault rfl _ _ fb 3 (n : Int) rfl (putF_blk _ _ HB3.out)).trans rfl) rfl ⟨(HM0.out.tr HM3.out).trans (putF_mod _ _) (fun _ h _ => h) (fun y hy hlt => by simp at hy; have := Hfb.out; omega), ?_⟩
            rw [HR.out]
            rfl
    · have k0 : ¬ (i : Int) ≤ (s.length : Int) := by omega
      have HO2 : Hid (o = .inl acc) := by
        have h := hP.out
        unfold PAt at h
        rw [if_neg hil] at h
        exact h
      clear hP
      obtain ⟨a2, c2, rfl, hv2⟩ := hO.out.val
      have hb2 := hM.out.blk HB0.out (by simp)
      have HB3 := hid hb2
      have f0 := hb2.cell 0
      have f1 := hb2.cell 1
      have z0 := hb2.free 0
      have z1 := hb2.free 1
      have zl := hb2.lt
      simp only [List.getElem?_toArray, List.getElem?_cons_zero, List.getElem?_cons_succ] at f0 f1
      clear hv2 hb2
      go_wp2_with fail
      show bodyPost Tryz.prog Tryz.f10 _ _ _ (putF wr fb 0 0)
      have hfL : fb ∉ L := fun h => by have := hL.out _ h; omega
      refine bodyPost_ret (v := .tuple #[.slice a2 acc.length c2, .agg #[.int .i64 0, .int .i64 0]]) ((res_fault rfl _ _ fb 0 0 rfl (putF_blk _ _ HB3.out)).trans rfl) rfl ⟨(HM0.out.tr hM.out).trans (putF_mod _ _) (fun _ h _ => h) (fun y hy hlt => by simp at hy; have := Hfb.out; omega), ?_⟩
      rw [HO2.out]
      exact ⟨_, L, rfl, hO.out.mod (putF_mod _ _) (fun k hk h => by simp at h; subst h; exact hfL hk), fun k hk => by have := hL.out k hk; have := Hfb.out; omega⟩
end
end Go.Proofs.YtibhkldnimfnkaaGreatDoor

/- Script, the reference: Same. -/
namespace Go.Proofs.YtibhkldnimfnkaaGreatDoor
section
set_option linter.unusedVariables false
set_option linter.unusedSimpArgs false
set_option linter.unusedSectionVars false
open Go.RowKit

set_option maxRecDepth 100000 in
set_option maxHeartbeats 2000000 in
theorem same_r (l m : List St) (v v' : Value) (w : World) (hv : StsV w v l) (hv' : StsV w v' m) :
    Calls Tryz.prog 12 #[v, v'] w fun e w' => e = .returned (.bool (decide (l = m))) ∧ Mod [] w w' := by
  have HV := hid hv
  have HV' := hid hv'
  obtain ⟨a, cap, rfl, hl63, _⟩ := hv
  obtain ⟨a', cap', rfl, hm63, _⟩ := hv'
  by_cases hlen : l.length = m.length
  · have g0 : ((l.length : Nat) : Int) = ((m.length : Nat) : Int) := by omega
    have Hlen := hid hlen
    clear hlen
    go_enter Tryz.func12, Tryz.ntmps12
    go_wp2_with fail
    go_loopg [5] l.length (fun g i wr => ∃ j : Nat, i = .int .i64 j ∧ j + g = l.length ∧ Hid (decide (l = m) = decide (l.drop j = m.drop j)) ∧ Hid (Mod [] w wr))
    · exact ⟨0, rfl, by omega, hid rfl, hid (Mod.refl _ _)⟩
    · obtain ⟨j, rfl, hj, hA, hM⟩ := hrel
      by_cases hlt : j < l.length
      · obtain ⟨x, hx⟩ : ∃ x, l[j]? = some x := ⟨_, List.getElem?_eq_getElem hlt⟩
        obtain ⟨y, hy⟩ : ∃ y, m[j]? = some y := ⟨_, List.getElem?_eq_getElem (by have := Hlen.out; omega)⟩
        have hj0 : (0 : Int) ≤ (j : Int) := by omega
        have hj1 : (j : Int) < (l.length : Int) := by omega
        have HA1 : Hid (decide (l = m) = (decide (x = y) && decide (l.drop (j + 1) = m.drop (j + 1)))) := by show _ = _; rw [hA.out, drop_eq hx hy]
        have HX := hid hx
        have HY := hid hy
        obtain ⟨b, off, rfl, _⟩ := HV.out.at hx
        obtain ⟨b', off', rfl, _⟩ := HV'.out.at hy
        clear hA hx hy
        go_wp2_with fail
        have hlt2 : j < m.length := by have := Hlen.out; omega
        obtain ⟨d, hd⟩ : ∃ d : Bool, d = !decide (x = y) := ⟨_, rfl⟩
        have Hd := hid hd
        clear hd
        refine wp_region_steps (by rfl) (by kernel_rfl) (fun W => Mod [] wr W)
          (fun k v W => match k with
            | 0 => v = .slice (some ⟨b, off, none⟩) l.length cap
            | 1 => v = .int .i64 (j : Int)
            | 2 => v = .pointer (some ⟨b, off + j * 8, none⟩)
            | 3 => v = stF x
            | 4 => v = .slice (some ⟨b', off', none⟩) m.length cap'
            | 5 => v = .int .i64 (j : Int)
            | 6 => v = .pointer (some ⟨b', off' + j * 8, none⟩)
            | 7 => v = stF y
            | 8 => v = .bool d
            | _ => True) ?h0 ?steps ?fin
        case h0 => exact (Mod.refl [] wr).drew
        case steps =>
          refine ⟨?s0, ?s1, ?s2, ?s3, ?s4, ?s5, ?s6, ?s7, ?s8, trivial⟩
          case s0 =>
            intro listed a W hR hall K hK
            have e1 : a.tmps[0]?.getD undef = _ := hR.old' 0 (by rfl)
            simp only [List.getElem?_toArray, List.getElem?_cons_zero, List.getElem?_cons_succ, Option.getD_some] at e1
            exact Oper.wp_value (.slice (some ⟨b, off, none⟩) l.length cap) (by simp [go_sem, e1]) (hK _ _ hR.world rfl (fun _ _ _ h => h))
          case s1 =>
            intro listed a W hR hall K hK
            have e1 : a.tmps[5]?.getD undef = _ := hR.old' 5 (by rfl)
            simp only [List.getElem?_toArray, List.getElem?_cons_zero, List.getElem?_cons_succ, Option.getD_some] at e1
            exact Oper.wp_value (.int .i64 (j : Int)) (by simp [go_sem, e1]) (hK _ _ hR.world rfl (fun _ _ _ h => h))
          case s2 =>
            intro listed a W hR hall K hK
            have e1 : a.tmps[17]?.getD undef = .slice (some ⟨b, off, none⟩) l.length cap := hR.val 0 rfl rfl (hall ⟨0, .data⟩ (by simp) rfl)
            have e2 : a.tmps[18]?.getD undef = .int .i64 (j : Int) := hR.val 1 rfl rfl (hall ⟨1, .data⟩ (by simp) rfl)
            exact Oper.wp_value (.pointer (some ⟨b, off + j * 8, none⟩)) (by simp [go_sem, e1, e2, hlt]) (hK _ _ hR.world rfl (fun _ _ _ h => h))
          case s3 =>
            intro listed a W hR hall K hK
            have e1 : a.tmps[19]?.getD undef = .pointer (some ⟨b, off + j * 8, none⟩) := hR.val 2 rfl rfl (hall ⟨2, .data⟩ (by simp) rfl)
            obtain ⟨b2, off2, e0, c0, c1, c2, c3, c4, c5, c6, c7⟩ := (HV.out.mod (hM.out.tr hR.world)).at HX.out
            cases e0
            exact Oper.wp_value (stF x) (by simp [go_sem, e1, c0, c1, c2, c3, c4, c5, c6, c7]) (hK _ _ hR.world rfl (fun _ _ _ h => h))
          case s4 =>
            intro listed a W hR hall K hK
            have e1 : a.tmps[1]?.getD undef = _ := hR.old' 1 (by rfl)
            simp only [List.getElem?_toArray, List.getElem?_cons_zero, List.getElem?_cons_succ, Option.getD_some] at e1
            exact Oper.wp_value (.slice (some ⟨b', off', none⟩) m.length cap') (by simp [go_sem, e1]) (hK _ _ hR.world rfl (fun _ _ _ h => h))
          case s5 =>
            intro listed a W hR hall K hK
            have e1 : a.tmps[5]?.getD undef = _ := hR.old' 5 (by rfl)
            simp only [List.getElem?_toArray, List.getElem?_cons_zero, List.getElem?_cons_succ, Option.getD_some] at e1
            exact Oper.wp_value (.int .i64 (j : Int)) (by simp [go_sem, e1]) (hK _ _ hR.world rfl (fun _ _ _ h => h))
          case s6 =>
            intro listed a W hR hall K hK
            have e1 : a.tmps[21]?.getD undef = .slice (some ⟨b', off', none⟩) m.length cap' := hR.val 4 rfl rfl (hall ⟨4, .data⟩ (by simp) rfl)
            have e2 : a.tmps[22]?.getD undef = .int .i64 (j : Int) := hR.val 5 rfl rfl (hall ⟨5, .data⟩ (by simp) rfl)
            exact Oper.wp_value (.pointer (some ⟨b', off' + j * 8, none⟩)) (by simp [go_sem, e1, e2, hlt2]) (hK _ _ hR.world rfl (fun _ _ _ h => h))
          case s7 =>
            intro listed a W hR hall K hK
            have e1 : a.tmps[23]?.getD undef = .pointer (some ⟨b', off' + j * 8, none⟩) := hR.val 6 rfl rfl (hall ⟨6, .data⟩ (by simp) rfl)
            obtain ⟨b2, off2, e0, c0, c1, c2, c3, c4, c5, c6, c7⟩ := (HV'.out.mod (hM.out.tr hR.world)).at HY.out
            cases e0
            exact Oper.wp_value (stF y) (by simp [go_sem, e1, c0, c1, c2, c3, c4, c5, c6, c7]) (hK _ _ hR.world rfl (fun _ _ _ h => h))
          case s8 =>
            intro listed a W hR hall K hK
            have e1 : a.tmps[20]?.getD undef = stF x := hR.val 3 rfl rfl (hall ⟨3, .data⟩ (by simp) rfl)
            have e2 : a.tmps[24]?.getD undef = stF y := hR.val 7 rfl rfl (hall ⟨7, .data⟩ (by simp) rfl)
            have hq := st_neq x y (.tmp 20) (.tmp 24) W
            refine Oper.wp_value (.bool d) ?_ (hK _ _ hR.world rfl (fun _ _ _ h => h))
            rw [Hd.out]
            have r1 : a.eval (.tmp 20) = stF x := by simpa [Act.eval, Array.getD_eq_getD_getElem?] using e1
            have r2 : a.eval (.tmp 24) = stF y := by simpa [Act.eval, Array.getD_eq_getD_getElem?] using e2
            unfold execOp
            simp only [r1, r2]
            simp only [Sem.run_bind] at hq ⊢
            rw [hq]
            rfl
        case fin =>
          intro listed a W hR hl
          have e25 : a.tmps.getD 25 undef = .bool d := by rw [Array.getD_eq_getD_getElem?]; exact hR.val 8 rfl rfl (hl 8 (by decide))
          have HMW := hid (hM.out.tr hR.world)
          have hfr := hR.frame
          clear hR hl
          simp only [List.filterMap_cons, List.filterMap_nil, List.foldl_cons, List.foldl_nil, List.setIfInBounds_toArray, List.set_cons_succ, List.set_cons_zero, e25] at hfr
          generalize a.tmps.getD 17 undef = v17 at hfr
          generalize a.tmps.getD 18 undef = v18 at hfr
          generalize a.tmps.getD 19 undef = v19 at hfr
          generalize a.tmps.getD 20 undef = v20 at hfr
          generalize a.tmps.getD 21 undef = v21 at hfr
          generalize a.tmps.getD 22 undef = v22 at hfr
          generalize a.tmps.getD 23 undef = v23 at hfr
          generalize a.tmps.getD 24 undef = v24 at hfr
          rw [hfr]
          clear hfr e25
          cases d with
          | true =>
            have hxy : decide (x = y) = false := by have := Hd.out; simpa using this
            have HD : Hid (decide (l = m) = false) := by show _ = _; rw [HA1.out, hxy]; rfl
            clear hxy
            go_wp2_with fail
            go_ret
            refine ⟨?_, HMW.out⟩
            rw [HD.out]
            rfl
          | false =>
            have hxy : decide (x = y) = true := by have := Hd.out; simpa using this
            have HD : Hid (decide (l = m) = decide (l.drop (j + 1) = m.drop (j + 1))) := by show _ = _; rw [HA1.out, hxy]; rfl
            clear hxy
            go_wp2
            go_roundg (gk - 1)
            case measure => omega
            case rel => exact ⟨j + 1, by go_num, by omega, HD, HMW⟩
      · obtain rfl : j = l.length := by omega
        have HD : Hid (decide (l = m) = true) := by show _ = _; rw [hA.out, List.drop_length, Hlen.out, List.drop_length]; simp
        go_wp2_with fail
        go_ret
        refine ⟨?_, hM.out⟩
        rw [HD.out]
        rfl
  · have g0 : ¬ ((l.length : Nat) : Int) = ((m.length : Nat) : Int) := by omega
    have HD : Hid (decide (l = m) = false) := decide_eq_false (fun e => hlen (by rw [e]))
    clear hlen
    go_enter Tryz.func12, Tryz.ntmps12
    go_wp2_with fail
    go_ret
    refine ⟨?_, Mod.refl _ _⟩
    rw [HD.out]
    rfl
end
end Go.Proofs.YtibhkldnimfnkaaGreatDoor

/- Script: ScriptReads. -/
namespace Go.Proofs.YtibhkldnimfnkaaGreatDoor
section
set_option linter.unusedVariables false
set_option linter.unusedSimpArgs false
set_option linter.unusedSectionVars false
open Go.RowKit

theorem parse_r (s : Bs) (w : World) (hs : s.length < 1000000000) : Calls Tryz.prog 10 #[.string (str s)] w (ParseR (parseL s) w) := parse_r0 line_r s w hs
theorem parseN_ne : ∀ (l : List Bs) (n : Nat) (acc : List St) (c i : Nat), parseN l n acc = .inr (c, i) → c ≠ 0
  | [], _, _, _, _, h => by cases h
  | s :: l, n, acc, c, i, h => by
    rw [parseN] at h
    cases hl : lineL s with
    | blank => rw [hl] at h; exact parseN_ne l _ _ _ _ h
    | bad e => rw [hl] at h; cases h; exact bad_ne hl
    | ok t =>
      rw [hl] at h
      simp only at h
      split at h
      · exact parseN_ne l _ _ _ _ h
      · cases h; decide
theorem told_same {c i : Nat} (hc : c ≠ 0) : toldB (some (c, i)) (c : Int) (i : Int) = true := by
  simp [toldB]
  omega

set_option maxRecDepth 100000 in
set_option maxHeartbeats 4000000 in
theorem reads_c (text : Bs) (w : World) (hw : WOk w) (ht : text.length ≤ 9223372036854775807) :
    Calls Tryz.prog 3 #[.string (str text)] w fun e w' => e = .returned (.bool true) ∧ Mod [] w w' := by
  have HW := hid hw
  have hex : (str text).extract 0 (min (text.length : Int) 5000).toNat = str (text.take 5000) := extK 5000 text
  have htz : (str text).size = text.length := str_len text
  have ht63 : (text.length : Int) ≤ 9223372036854775807 := by omega
  have HLT : Hid ((text.take 5000).length < 1000000000) := by show _ < _; simp; omega
  clear hw
  go_enter Tryz.func3, Tryz.ntmps3
  go_wp2_with fail
  refine (parse_c (text.take 5000) w HLT.out HW.out.mx).mono ?_
  intro e w1 hpg
  obtain ⟨hm, v, v', l, rfl, hsts, ⟨a, cap, rfl⟩, h⟩ := ParseG.opened hpg
  clear hpg
  have HM1 := hid hm
  have HS1 := hid hsts
  clear hm hsts
  have HPR := hid (parse_r (text.take 5000) w1 HLT.out)
  rcases h with ⟨hp, rfl⟩ | ⟨c, i, hp, rfl, herr⟩
  · rw [hp] at HPR
    clear hp
    go_wp2_with fail
    refine HPR.out.mono ?_
    rintro e w2 ⟨hm, u, L, rfl, ho, _⟩
    have HM2 := hid (HM1.out.tr hm)
    have HS2 := hid (HS1.out.mod hm)
    have HU2 := hid ho.sts
    clear hm ho HPR HM1 HS1
    have hmA := (Mod.refl [] w2).alloc (.cells #[.int .i64 0, .int .i64 0] 29)
    have HT := hid (told_c none .nilIface (w2.alloc (.cells #[.int .i64 0, .int .i64 0] 29)) 0 0 rfl (HW.out.mod (HM2.out.tr hmA)))
    have HM3 := hid (HM2.out.tr hmA)
    have HS3 := hid (HS2.out.mod hmA)
    have HU3 := hid (HU2.out.mod hmA)
    clear hmA HM2 HS2 HU2
    go_wp2_with fail
    refine HT.out.mono ?_
    rintro e w3 ⟨rfl, hm⟩
    have HM4 := hid (HM3.out.tr hm)
    have HS4 := hid (HS3.out.mod hm)
    have HU4 := hid (HU3.out.mod hm)
    clear hm HT HM3 HS3 HU3
    rw [show toldB none 0 0 = true from rfl]
    go_wp2_with fail
    refine (same_r l l _ _ w3 HS4.out HU4.out).mono ?_
    rintro e w4 ⟨rfl, hm⟩
    have HM5 := hid (HM4.out.tr hm)
    clear hm HM4 HS4 HU4
    rw [show decide (l = l) = true from decide_eq_true rfl]
    go_wp2_with fail
    refine (works_c w4 (HW.out.mod HM5.out)).mono ?_
    rintro e w5 ⟨rfl, hm⟩
    have HM6 := hid (HM5.out.tr hm)
    clear hm HM5
    go_wp2_with fail
    go_ret
    exact ⟨rfl, HM6.out⟩
  · have hc := parseN_ne _ _ _ _ _ hp
    rw [hp] at HPR
    have HE := hid herr
    have Hc := hid hc
    clear hp herr hc
    go_wp2_with fail
    refine HPR.out.mono ?_
    rintro e w2 ⟨hm, rfl⟩
    have HM2 := hid (HM1.out.tr hm)
    have HS2 := hid (HS1.out.mod hm)
    have HE2 := hid (HE.out.mod hm)
    have HU2 : Hid (StsV w2 (.slice none 0 0) []) := ⟨none, 0, rfl, by simp, .inl rfl⟩
    clear hm HPR HM1 HS1 HE
    have hmA := (Mod.refl [] w2).alloc (.cells #[.int .i64 (c : Int), .int .i64 (i : Int)] 29)
    have HT := hid (told_c (some (c, i)) v' (w2.alloc (.cells #[.int .i64 (c : Int), .int .i64 (i : Int)] 29)) (c : Int) (i : Int) (HE2.out.mod hmA) (HW.out.mod (HM2.out.tr hmA)))
    have HM3 := hid (HM2.out.tr hmA)
    have HS3 := hid (HS2.out.mod hmA)
    have HU3 := hid (HU2.out.mod hmA)
    clear hmA HM2 HS2 HU2 HE2
    go_wp2_with fail
    refine HT.out.mono ?_
    rintro e w3 ⟨rfl, hm⟩
    have HM4 := hid (HM3.out.tr hm)
    have HS4 := hid (HS3.out.mod hm)
    have HU4 := hid (HU3.out.mod hm)
    clear hm HT HM3 HS3 HU3
    rw [told_same Hc.out]
    go_wp2_with fail
    refine (same_r [] [] _ _ w3 HS4.out HU4.out).mono ?_
    rintro e w4 ⟨rfl, hm⟩
    have HM5 := hid (HM4.out.tr hm)
    clear hm HM4 HS4 HU4
    rw [show decide (([] : List St) = []) = true from decide_eq_true rfl]
    go_wp2_with fail
    refine (works_c w4 (HW.out.mod HM5.out)).mono ?_
    rintro e w5 ⟨rfl, hm⟩
    have HM6 := hid (HM5.out.tr hm)
    clear hm HM5
    go_wp2_with fail
    go_ret
    exact ⟨rfl, HM6.out⟩
theorem reads_said (s : ByteArray) (W : World) (hw : WOk W) (h : s.size ≤ 9223372036854775807) :
    Calls Tryz.prog 3 #[.string s] W fun e w' => e = .returned (.bool true) ∧ Mod [] W w' := by
  have := reads_c (byt s) W hw (by rw [byt_len]; exact h)
  rw [str_byt] at this
  exact this
end
end Go.Proofs.YtibhkldnimfnkaaGreatDoor
