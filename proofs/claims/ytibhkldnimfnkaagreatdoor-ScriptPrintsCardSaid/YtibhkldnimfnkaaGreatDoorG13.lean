/- Script: parts YN YO YP YQ YR. -/
import Derived.Test.YtibhkldnimfnkaaGreatDoorG12
import Derived.Lib.ItoaLen

/- Script: a text's lines; what is done safely with one of them. -/
namespace Go.Proofs.YtibhkldnimfnkaaGreatDoor
section
set_option linter.unusedVariables false
set_option linter.unusedSimpArgs false
set_option linter.unusedSectionVars false
open Go.RowKit

theorem splitK_hit {k i : Nat} {s : Bs} (h : Lib.index s [10] = (i : Int)) : Lib.splitK [10] 0 (k + 1) s = s.take i :: Lib.splitK [10] 0 k (s.drop (i + 1)) := by
  have hm : ¬ (Lib.index s [10] == -1) = true := fun e => by have := beq_iff_eq.1 e; omega
  have e : (Lib.index s [10]).toNat = i := by omega
  rw [Lib.splitK, if_neg hm, e]
  rfl
theorem splitK_lines : ∀ s : Bs, Lib.splitK [10] 0 (Lib.count s [10]) s = linesL s := by
  intro s
  induction s with
  | nil => rw [Lib.count_miss (by simp [Lib.index])]; rfl
  | cons c s ih =>
    by_cases h : c = 10
    · subst h
      have hix : Lib.index (10 :: s) [10] = ((0 : Nat) : Int) := by rw [Lib.index]; simp [List.isPrefixOf]
      rw [Lib.count_cons_eq, Nat.add_comm, splitK_hit hix]
      show _ :: Lib.splitK [10] 0 _ s = _
      rw [ih]
      rfl
    · have hp : ([10] : List UInt8).isPrefixOf (c :: s) = false := by simp [List.isPrefixOf, Ne.symm h]
      have hix : Lib.index (c :: s) [10] = if Lib.index s [10] == -1 then -1 else Lib.index s [10] + 1 := by rw [Lib.index, hp]; simp
      rw [Lib.count_cons_ne c 10 s h]
      have hl : linesL (c :: s) = match linesL s with | [] => [[c]] | x :: l => (c :: x) :: l := by
        rw [linesL]
        simp only [beq_eq_false_iff_ne.2 h, Bool.false_eq_true, if_false]
        cases linesL s <;> rfl
      rw [hl, ← ih]
      cases hn : Lib.count s [10] with
      | zero => rfl
      | succ n =>
        have hm : Lib.index s [10] ≠ -1 := fun e => by rw [Lib.count_miss e] at hn; cases hn
        have hge := Lib.index_ge s [10]
        obtain ⟨j, hj⟩ : ∃ j : Nat, Lib.index s [10] = j := ⟨(Lib.index s [10]).toNat, by omega⟩
        have hix2 : Lib.index (c :: s) [10] = ((j + 1 : Nat) : Int) := by rw [hix, if_neg (by simpa using hm), hj]; omega
        rw [splitK_hit hj, splitK_hit hix2]
        rfl
theorem countB_str (s : Bs) : Lib.countB (str s) ⟨#[10]⟩ = Lib.count s [10] := by
  show Lib.count (str s).data.toList [10] = _
  simp
theorem splitB_lines (s : Bs) : Lib.splitB ⟨#[10]⟩ 0 (Lib.countB (str s) ⟨#[10]⟩) (str s) = (linesL s).map str := by
  have h := Lib.splitB_data ⟨#[10]⟩ 0 (Lib.countB (str s) ⟨#[10]⟩) (str s)
  rw [countB_str] at h ⊢
  have e : (str s).data.toList = s := by simp
  have h : (Lib.splitB ⟨#[10]⟩ 0 (Lib.count s [10]) (str s)).map (·.data.toList) = linesL s := by rw [h, e]; exact splitK_lines s
  rw [← h, List.map_map]
  conv => lhs; rw [← List.map_id (Lib.splitB ⟨#[10]⟩ 0 (Lib.count s [10]) (str s))]
  refine List.map_congr_left (fun b _ => ?_)
  simp [str]
theorem lines_count (s : Bs) : (linesL s).length = Lib.count s [10] + 1 := by
  have := Lib.splitB_all ⟨#[10]⟩ (by decide) 0 _ (str s) rfl
  rw [splitB_lines, countB_str, List.length_map] at this
  exact this
theorem lines_len : ∀ (s : Bs), ∀ x ∈ linesL s, x.length ≤ s.length := by
  intro s
  induction s with
  | nil => intro x hx; simp [linesL] at hx; simp [hx]
  | cons c s ih =>
    intro x hx
    rw [linesL] at hx
    split at hx
    · rcases List.mem_cons.1 hx with rfl | hx
      · simp
      · have := ih x hx; simp; omega
    · split at hx
      · simp at hx; simp [hx]
      · rename_i y l hl
        rcases List.mem_cons.1 hx with rfl | hx
        · have := ih y (by rw [hl]; simp); simp; omega
        · have := ih x (by rw [hl]; simp [hx]); simp; omega

/-- What of a line is added to the steps. -/
def addL (acc : List St) (s : Bs) : List St ⊕ Nat :=
  match lineL s with
  | .blank => .inl acc
  | .bad e => .inr e
  | .ok t => if acc.length < 4096 then .inl (acc ++ [t]) else .inr 3
theorem parseN_cons (s : Bs) (l : List Bs) (i : Nat) (acc : List St) : parseN (s :: l) i acc = match addL acc s with | .inl a => parseN l (i + 1) a | .inr e => .inr (e, i) := by
  unfold addL
  rw [parseN]
  cases lineL s with
  | blank => rfl
  | bad e => rfl
  | ok t =>
    simp only
    split <;> rfl

theorem st_el : (Tryz.prog.info? 46).map (fun i => (i.zero, i.size, i.bytes)) = some (some (.agg zeroC), 8, 88) := by kernel_rfl
/-- The steps so far, held by the box xb; L: their blocks. -/
def OutL (xb : Nat) (acc : List St) (L : List Nat) (w : World) : Prop := ∃ v, Blk w xb #[v] 22 ∧ Own w 46 8 v acc.length (flat stC acc) L
theorem OutL.mod {xb : Nat} {acc : List St} {L M : List Nat} {w w' : World} (h : OutL xb acc L w) (hm : Mod M w w') (h1 : xb ∉ M) (h2 : ∀ k ∈ L, k ∉ M) : OutL xb acc L w' := by
  obtain ⟨v, h3, h4⟩ := h
  exact ⟨v, hm.blk h3 h1, h4.mod hm h2⟩
theorem OutL.lt {xb : Nat} {acc : List St} {L : List Nat} {w : World} (h : OutL xb acc L w) : xb < w.heap.size ∧ ∀ k ∈ L, k < w.heap.size := by
  obtain ⟨v, h1, h2⟩ := h
  exact ⟨h1.lt, h2.lt⟩
/-- What comes of a line, of which the step is added. -/
def AddG (xb : Nat) (L : List Nat) (o : List St ⊕ Nat) (w : World) (e : Ending) (w' : World) : Prop := Mod (xb :: L) w w' ∧ match o with
  | .inl acc => e = .returned (.tuple #[]) ∧ ∃ L', OutL xb acc L' w' ∧ ∀ k ∈ L', k ∈ L ∨ w.heap.size ≤ k
  | .inr c => e = .panicked (pan c)
theorem Mod.any {m : List Nat} {w w' : World} (h : Mod [] w w') : Mod m w w' := h.trans (Mod.refl [] w') (fun _ h _ => by cases h) (fun _ h _ => by cases h)

set_option maxRecDepth 100000 in
set_option maxHeartbeats 2000000 in
theorem parse1_c (w : World) (sb xb : Nat) (L : List Nat) (s : Bs) (acc : List St) (hs : Blk w sb #[.string (str s)] 9) (ho : OutL xb acc L w) (hxL : xb ∉ L) (hsl : s.length < 4294967000) (hacc : acc.length ≤ 4096) :
    Calls Tryz.prog 23 #[.pointer (some ⟨sb, 0, none⟩), .pointer (some ⟨xb, 0, none⟩)] w (AddG xb L (addL acc s) w) := by
  have s0 := hs.cell 0
  have sl := hs.lt
  simp only [List.getElem?_toArray, List.getElem?_cons_zero] at s0
  have HS := hid hs
  have HO := hid ho
  have HLC := hid (line_c s w hsl)
  have HAD : Hid (addL acc s = match lineL s with | .blank => .inl acc | .bad e => .inr e | .ok t => if acc.length < 4096 then .inl (acc ++ [t]) else .inr 3) := rfl
  clear hs ho
  go_enter Tryz.func23, Tryz.ntmps23
  go_wp2_with fail
  refine HLC.out.mono ?_
  obtain ⟨o, ho⟩ : ∃ o, o = lineL s := ⟨_, rfl⟩
  rw [← ho] at HAD ⊢
  clear HLC ho
  rintro e w1 ⟨hm, he⟩
  cases o with
  | bad c =>
    obtain rfl := he
    refine ⟨rfl, hm.any, ?_⟩
    rw [HAD.out]
  | blank =>
    obtain rfl := he
    have HM := hid hm
    clear hm
    go_wp2_with fail
    go_end0
    refine ⟨(HM.out.alloc _).any, ?_⟩
    rw [HAD.out]
    exact ⟨rfl, L, HO.out.mod (HM.out.alloc _) (by simp) (by simp), fun k hk => .inl hk⟩
  | ok t =>
    obtain rfl := he
    have HO1 := hid (HO.out.mod hm (by simp) (by simp))
    obtain ⟨v, hb, hown⟩ := HO1.out
    have HB := hid hb
    have HOW := hid hown
    obtain ⟨a, cap, rfl, hv⟩ := HOW.out.val
    have x0 := hb.cell 0
    have xf := hb.free 0
    have xl := hb.lt
    simp only [List.getElem?_toArray, List.getElem?_cons_zero] at x0
    have HM := hid hm
    by_cases hlt : acc.length < 4096
    · have HAD2 : Hid (addL acc s = .inl (acc ++ [t])) := by
        show _ = _
        rw [HAD.out]
        simp only
        rw [if_pos hlt]
      have g1 : ¬ (4096 : Int) ≤ (acc.length : Int) := by omega
      clear hm hb hown hv HAD
      obtain ⟨X, hX⟩ : ∃ X, X = (w1.alloc (.cells (stA t) 46)).alloc (.cells (stA t) 46) := ⟨_, rfl⟩
      have hmX : Mod [] w1 X := by rw [hX]; exact ((Mod.refl [] w1).alloc _).alloc _
      have hzX : (w1.alloc (.cells (stA t) 46)).heap.size = w1.heap.size + 1 := by simp
      have HOX := hid (HOW.out.mod hmX (by simp))
      have HBX := hid (hmX.blk HB.out (by simp))
      have hbt : Blk X (w1.heap.size + 1) (stA t) 46 := by rw [hX, ← hzX]; exact Blk.new _ _ _
      have HR : Hid (Rdl X 8 (.slice (some ⟨w1.heap.size + 1, 0, none⟩) 1 1) 1 (stC t)) := by
        refine ⟨rfl, Or.inr ⟨w1.heap.size + 1, 0, 1, rfl, fun j hj => ?_⟩⟩
        rw [Nat.zero_add, hbt.cell]
        exact List.getElem?_toArray
      have HMX := hid hmX
      have hone := st_lays.one t
      rw [hX] at HOX HR
      have hb1 : ∀ w2, Mod L X w2 → Blk w2 xb #[.slice a acc.length cap] 22 := fun w2 h => h.blk HBX.out hxL
      rw [hX] at hb1
      have HB1 := hid hb1
      clear hbt hmX hzX hb1
      go_wp2_with (at_builtin; refine wpList_append_rdl rfl (.tmp 18) (.tmp 20) 22 46 rfl Tryz.underlying22 st_el rfl (by decide) rfl HOX.out rfl HR.out hone (by omega) (by omega) ?_; intro v1 w2 L1 g2 g3 g4; obtain ⟨a2, c2, rfl, _⟩ := Own.val g2.out; have hb2 := HB1.out w2 g3.out; have x0 := hb2.cell 0; have xf := hb2.free 0; have xl := hb2.lt; simp only [List.getElem?_toArray, List.getElem?_cons_zero] at x0; have HB2 := hid hb2; clear hb2)
      go_end0
      have g3' : Mod L X w2 := by rw [hX]; exact g3.out
      have hm1 : Mod L w w2 := (HM.out.tr HMX.out).trans g3' (fun _ h _ => by cases h) (fun _ h _ => h)
      have hm2 : Mod [xb] w2 (w2.setCell ⟨xb, 0, none⟩ (.slice a2 (acc.length + 1) c2)) := (Mod.refl [xb] w2).setCell (Or.inl (by simp)) _
      have hL1 : ∀ k ∈ L1, k ∈ L ∨ w.heap.size ≤ k := fun k hk => by
        rcases g4.out k hk with h | h
        · exact .inl h
        · have := HM.out.size; simp at h; omega
      have hxl : xb < w.heap.size := HO.out.lt.1
      refine ⟨hm1.trans hm2 (fun _ h _ => by simp [h]) (fun x hx _ => by simp at hx; simp [hx]), ?_⟩
      rw [HAD2.out]
      have ho2 := g2.out.mod hm2 (fun k hk hm => by
        simp at hm
        subst hm
        rcases hL1 _ hk with h | h
        · exact hxL h
        · omega)
      refine ⟨rfl, L1, ⟨_, HB2.out.set 0 _, ?_⟩, hL1⟩
      have e : flat stC (acc ++ [t]) = flat stC acc ++ stC t := by simp [flat]
      rw [e, List.length_append]
      exact ho2
    · have HAD2 : Hid (addL acc s = .inr 3) := by
        show _ = _
        rw [HAD.out]
        simp only
        rw [if_neg hlt]
      have g1 : (4096 : Int) ≤ (acc.length : Int) := by omega
      clear hm hb hown hv HAD
      go_wp2_with fail
      refine ⟨rfl, (HM.out.alloc _).any, ?_⟩
      rw [HAD2.out]
      rfl

theorem bad_ne {s : Bs} {e : Nat} (h : lineL s = .bad e) : e ≠ 0 := by
  unfold lineL at h
  simp only at h
  split at h
  · cases h
  · split at h
    · cases h; decide
    · split at h
      · split at h
        · cases h; decide
        · cases h
      · cases h; decide
theorem addL_ne {acc : List St} {s : Bs} {c : Nat} (h : addL acc s = .inr c) : c ≠ 0 := by
  unfold addL at h
  split at h
  · cases h
  · rename_i e he
    cases h
    exact bad_ne he
  · split at h
    · cases h
    · cases h; decide

set_option maxRecDepth 100000 in
/-- .. done safely. -/
theorem add_c (w : World) (sb xb : Nat) (L : List Nat) (s : Bs) (acc : List St) (hs : Blk w sb #[.string (str s)] 9) (ho : OutL xb acc L w) (hxL : xb ∉ L) (hsl : s.length < 4294967000) (hacc : acc.length ≤ 4096) :
    Calls Tryz.prog 22 #[.func (.func 23) #[] #[.pointer (some ⟨sb, 0, none⟩), .pointer (some ⟨xb, 0, none⟩)]] w fun e w' => Mod (xb :: L) w w' ∧ match addL acc s with
      | .inl a => e = .returned (.int .i64 0) ∧ ∃ L', OutL xb a L' w' ∧ ∀ k ∈ L', k ∈ L ∨ w.heap.size ≤ k
      | .inr c => e = .returned (.int .i64 (c : Int)) := by
  have hm0 := (Mod.refl [] w).alloc (.cells #[.int .i64 0] 27)
  have hz : (w.alloc (.cells #[.int .i64 0] 27)).heap.size = w.heap.size + 1 := by simp
  obtain ⟨hxl, hLl⟩ := ho.lt
  refine (safely_c w _ _ (fun _ _ => rfl) (fun o W => Mod (xb :: L) (w.alloc (.cells #[.int .i64 0] 27)) W ∧ match addL acc s with
      | .inl a => o = none ∧ ∃ L', OutL xb a L' W ∧ ∀ k ∈ L', k ∈ L ∨ w.heap.size + 1 ≤ k
      | .inr c => o = some (c : Int)) ?_).mono ?_
  · refine (parse1_c _ sb xb L s acc (hm0.blk hs (by simp)) (ho.mod hm0 (by simp) (by simp)) hxL hsl hacc).mono ?_
    rintro e W ⟨hm, he⟩
    refine ⟨⟨_, hm.blk (Blk.new w _ _) (fun h => by
      rcases List.mem_cons.1 h with h | h
      · omega
      · have := hLl _ h; omega)⟩, ?_⟩
    cases h : addL acc s with
    | inl a =>
      rw [h] at he
      obtain ⟨he, L', h1, h2⟩ := he
      exact .inl ⟨he, hm, rfl, L', h1, fun k hk => by have := h2 k hk; rw [hz] at this; exact this⟩
    | inr c =>
      rw [h] at he
      exact .inr ⟨c, he, hm, rfl⟩
  · rintro e w' ⟨o, w1, ⟨hm, hR⟩, hs1, hs2, hm2, rfl⟩
    refine ⟨(hm0.trans hm (m := xb :: L) (fun _ h _ => by cases h) (fun _ h _ => h)).trans hm2 (fun _ h _ => h) (fun x hx hlt => by simp at hx; omega), ?_⟩
    cases h : addL acc s with
    | inl a =>
      rw [h] at hR
      obtain ⟨rfl, L', h1, h2⟩ := hR
      refine ⟨rfl, L', h1.mod hm2 (by simp; omega) (fun k hk => by
        simp
        rcases h2 k hk with h | h
        · have := hLl k h; omega
        · omega), fun k hk => (h2 k hk).imp id (fun h => by omega)⟩
    | inr c =>
      rw [h] at hR
      obtain rfl := hR
      rfl
end
end Go.Proofs.YtibhkldnimfnkaaGreatDoor

/- Script: a text is read. -/
namespace Go.Proofs.YtibhkldnimfnkaaGreatDoor
section
set_option linter.unusedVariables false
set_option linter.unusedSimpArgs false
set_option linter.unusedSectionVars false
open Go.RowKit

/-- bytealg.MaxLen is there. -/
def MaxL (w : World) : Prop := ∃ m, w.cell? ⟨1, 0, none⟩ = some (.int .i64 m)
theorem MaxL.mod {w w' : World} (h : MaxL w) (hm : Mod [] w w') : MaxL w' := by
  obtain ⟨m, h⟩ := h
  refine ⟨m, ?_⟩
  have hlt : 1 < w.heap.size := by
    rcases Nat.lt_or_ge 1 w.heap.size with h' | h'
    · exact h'
    · unfold World.cell? at h
      simp [Array.getElem?_eq_none h'] at h
  have := hm.block 1 hlt (by simp)
  unfold World.cell? at h ⊢
  simp only [this]
  exact h
/-- What comes of reading a text. -/
def ParseG (o : List St ⊕ (Nat × Nat)) (w : World) (e : Ending) (w' : World) : Prop := Mod [] w w' ∧ match o with
  | .inl l => ∃ v L, e = .returned (.tuple #[v, .nilIface]) ∧ Own w' 46 8 v l.length (flat stC l) L ∧ ∀ k ∈ L, w.heap.size ≤ k
  | .inr (c, i) => ∃ b, e = .returned (.tuple #[.slice none 0 0, .iface 62 (.pointer (some ⟨b, 0, none⟩))]) ∧ w.heap.size ≤ b ∧ Blk w' b #[.int .i64 (c : Int), .int .i64 (i : Int)] 29

set_option maxRecDepth 100000 in
set_option maxHeartbeats 2000000 in
theorem parse_c (s : Bs) (w : World) (hs : s.length < 1000000000) (hmx : MaxL w) : Calls Tryz.prog 9 #[.string (str s)] w (ParseG (parseL s) w) := by
  have hmf := mkFunc
  obtain ⟨W0, hW0⟩ : ∃ W, W = w.alloc (.cells #[.slice none 0 0] 22) := ⟨_, rfl⟩
  obtain ⟨xb, hxb⟩ : ∃ b, b = w.heap.size := ⟨_, rfl⟩
  have hm0 : Mod [] w W0 := by rw [hW0]; exact (Mod.refl [] w).alloc _
  have hx0 : Blk W0 xb #[.slice none 0 0] 22 := by rw [hW0, hxb]; exact Blk.new _ _ _
  obtain ⟨m, hm⟩ := hmx.mod hm0
  have hsp := Tryz.strings_Split (str s) ⟨#[10]⟩ m W0 (by rw [str_len]; omega) hm (by decide)
  rw [splitB_lines, countB_str, ← lines_count] at hsp
  have HLN : Hid (∀ x ∈ linesL s, x.length ≤ s.length) := lines_len s
  have hcnt : (linesL s).length ≤ 1000000001 := by
    rw [lines_count, Lib.count_one]
    have := List.count_le_length (a := (10 : UInt8)) (l := s)
    omega
  have HPL : Hid (parseL s = parseN (linesL s) 0 []) := rfl
  obtain ⟨o, ho⟩ : ∃ o, o = parseL s := ⟨_, rfl⟩
  rw [← ho] at HPL ⊢
  clear ho hm hmx
  obtain ⟨l, hl⟩ : ∃ l, l = linesL s := ⟨_, rfl⟩
  rw [← hl] at hsp HLN hcnt HPL
  clear hl
  have HSP := hid hsp
  have HM0 := hid hm0
  have HX0 := hid hx0
  have Hxb := hid hxb
  have HW0 := hid hW0
  have Hs := hid hs
  clear hsp hm0 hx0 hxb hW0 hs
  go_enter Tryz.func9, Tryz.ntmps9
  go_wp2_with fail
  rw [← HW0.out, ← Hxb.out]
  refine HSP.out.mono ?_
  rintro e w1 ⟨rfl, hw1⟩
  obtain ⟨gb, hgb⟩ : ∃ b, b = W0.heap.size := ⟨_, rfl⟩
  rw [← hgb]
  have hm1 : Mod [] W0 w1 := by rw [hw1]; exact (Mod.refl [] W0).alloc _
  have hg1 : Blk w1 gb (l.map str |>.map Value.string).toArray 9 := by rw [hw1, hgb]; exact Blk.new _ _ _
  have hz1 : w1.heap.size = gb + 1 := by rw [hw1, hgb]; simp
  have hxg : xb < gb := by rw [hgb]; exact HX0.out.lt
  have HX1 := hid (hm1.blk HX0.out (by simp))
  have HM1 := hid (HM0.out.tr hm1)
  have HG1 := hid hg1
  have HZ1 := hid hz1
  clear hm1 hg1 hz1 hgb hw1 HSP HM0 HX0 HW0
  go_wp2_with fail
  have hl63 : (l.length : Int) ≤ 1000000001 := by omega
  go_loopg [11] l.length (fun g i wr => ∃ (j : Nat) (acc : List St) (L : List Nat), i = .int .i64 j ∧ j + g = l.length ∧ acc.length ≤ 4096 ∧ Hid (parseN (l.drop j) j acc = o) ∧ Hid (OutL xb acc L wr) ∧ Hid (∀ k ∈ L, gb < k) ∧ Hid (Mod [xb] w1 wr))
  · exact ⟨0, [], [], rfl, by omega, by simp, hid (by rw [HPL.out]; rfl), ⟨_, HX1.out, Own.nil _ _ _⟩, hid (by simp), hid (Mod.refl _ _)⟩
  · obtain ⟨j, acc, L, rfl, hj, hacc, hA, hO, hL, hM⟩ := hrel
    by_cases hlt : j < l.length
    · obtain ⟨x, hx⟩ : ∃ x, l[j]? = some x := ⟨_, List.getElem?_eq_getElem hlt⟩
      have hgw := hM.out.blk HG1.out (by simp; omega)
      have g0 := hgw.cell j
      rw [List.getElem?_toArray, List.getElem?_map, List.getElem?_map, hx] at g0
      simp only [Option.map_some] at g0
      have gl := hgw.lt
      have hj0 : (0 : Int) ≤ (j : Int) := by omega
      have hj1 : (j : Int) < (l.length : Int) := by omega
      have HXL : Hid (x.length < 4294967000) := by have := HLN.out x (List.mem_of_getElem? hx); have := Hs.out; show _ < _; omega
      have HA1 : Hid (parseN (x :: l.drop (j + 1)) j acc = o) := by show _ = _; rw [← hA.out, drop_at hx]
      clear hgw hx hA
      go_wp2_with fail
      obtain ⟨X, hX⟩ : ∃ X, X = wr.alloc (.cells #[.string (str x)] 9) := ⟨_, rfl⟩
      obtain ⟨sb, hsb⟩ : ∃ b, b = wr.heap.size := ⟨_, rfl⟩
      rw [← hX, ← hsb]
      have hmX : Mod [] wr X := by rw [hX]; exact (Mod.refl [] wr).alloc _
      have hbX : Blk X sb #[.string (str x)] 9 := by rw [hX, hsb]; exact Blk.new _ _ _
      have hxL : xb ∉ L := fun h => by have := hL.out _ h; omega
      have HMX := hid (hM.out.trans hmX (fun _ h _ => h) (fun _ h _ => by cases h) (m := [xb]))
      have HLX := hid hL.out
      refine (add_c X sb xb L x acc hbX (hO.out.mod hmX (by simp) (by simp)) hxL HXL.out hacc).mono ?_
      rintro e w2 ⟨hm2, he⟩
      have hg1s : gb < X.heap.size := by have := hmX.size; omega
      have HM2 : Hid (Mod [xb] w1 w2) := HMX.out.trans hm2 (fun _ h _ => h) (fun y hy hlt => by
        rcases List.mem_cons.1 hy with rfl | hy
        · simp
        · have := HLX.out y hy; have := HZ1.out; omega)
      have hrest := parseN_cons x (l.drop (j + 1)) j acc
      rw [HA1.out] at hrest
      cases had : addL acc x with
      | inr c =>
        have hc := addL_ne had
        rw [had] at he hrest
        obtain rfl := he
        have HO : Hid (o = .inr (c, j)) := hrest
        have g1 : ¬ (c : Int) = 0 := by omega
        clear hM hO hL hX hsb hmX hbX hm2 hrest had hc g0 gl
        go_wp2_with fail
        have hm3 : Mod [xb] w1 (w2.alloc (.cells #[.int .i64 (c : Int), .int .i64 (j : Int)] 29)) := HM2.out.alloc _
        refine bodyPost_ret (v := .tuple #[.slice none 0 0, .iface 62 (.pointer (some ⟨w2.heap.size, 0, none⟩))]) (by simp [results, Tryz.results9, go_sem]) rfl ⟨HM1.out.trans hm3 (m := []) (fun _ h _ => h) (fun y hy hlt => by simp at hy; have := Hxb.out; omega), ?_⟩
        rw [HO.out]
        exact ⟨w2.heap.size, rfl, by have := HM1.out.size; have := HM2.out.size; omega, Blk.new _ _ _⟩
      | inl a =>
        rw [had] at he hrest
        obtain ⟨rfl, L', hO2, hL2⟩ := he
        have HR : Hid (parseN (l.drop (j + 1)) (j + 1) a = o) := hrest.symm
        have HO2 := hid hO2
        have HL2 : Hid (∀ k ∈ L', gb < k) := fun k hk => by
          rcases hL2 k hk with h | h
          · exact HLX.out k h
          · omega
        have hacc2 : a.length ≤ 4096 := by
          unfold addL at had
          split at had
          · cases had; exact hacc
          · cases had
          · split at had
            · cases had; simp; omega
            · cases had
        clear hM hO hL hX hsb hmX hbX hm2 hrest had g0 gl hO2 hL2
        go_wp2
        go_roundg (gk - 1)
        case measure => omega
        case rel => exact ⟨j + 1, a, L', by go_num, by omega, hacc2, HR, HO2, HL2, HM2⟩
    · obtain rfl : j = l.length := by omega
      have HO : Hid (o = .inl acc) := by
        show _ = _
        rw [← hA.out, List.drop_length]
        rfl
      obtain ⟨v, hb, hown⟩ := hO.out
      have x0 := hb.cell 0
      have xl := hb.lt
      simp only [List.getElem?_toArray, List.getElem?_cons_zero] at x0
      have HOW := hid hown
      have HM2 := hid (HM1.out.trans hM.out (m := []) (fun _ h _ => h) (fun y hy hlt => by simp at hy; have := Hxb.out; omega))
      have HL2 := hid hL.out
      clear hA hO hM hL hb hown
      go_wp2_with fail
      refine bodyPost_ret (v := .tuple #[v, .nilIface]) (by simp [results, Tryz.results9, go_sem]) rfl ⟨HM2.out, ?_⟩
      rw [HO.out]
      exact ⟨v, L, rfl, HOW.out, fun k hk => by have := HL2.out k hk; have := Hxb.out; omega⟩
end
end Go.Proofs.YtibhkldnimfnkaaGreatDoor

/- A region that draws its order, operation by operation, with a condition on what has come up. -/
namespace Go.Proofs.YtibhkldnimfnkaaGreatDoor
section
set_option linter.unusedVariables false
set_option linter.unusedSimpArgs false
set_option linter.unusedSectionVars false
open Go.RowKit

section
variable {P : Program} {ops : Array Oper} {Q : Exit → Act → World → Prop} {S : World → Prop} {V : Nat → Value → World → Prop} {J : Array Bool → World → Prop} {a0 : Act}

theorem wpAny_eachJ {n : Nat} (ht : tidy ops n = true) (hn : a0.tmps.size = n)
    (step : ∀ (i : Nat) (o : Oper), ops[i]? = some o → ∀ (listed : Array Bool) a w, RegAt ops S V a0 listed a w → J listed w → listed.size = ops.size → listed.getD i true = false → (∀ e ∈ o.after, Region.binds .any e = true → listed.getD e.on false = true) → ∀ K : Act → World → Prop,
      (∀ v w', S w' → V i (match o.dst with | some _ => v | none => undef) w' → (∀ j u, j ≠ i → V j u w → V j u w') → J (listed.setIfInBounds i true) w' → K (a.put o.dst v) w') → o.wp P a w K Q)
    (fin : ∀ listed a w, RegAt ops S V a0 listed a w → (∀ i, i < ops.size → listed.getD i false = true) → Q .normal a w) :
    ∀ (fuel : Nat) (listed : Array Bool) (a : Act) (w : World), listed.size = ops.size → (listed.toList.filter (fun x => !x)).length ≤ fuel → RegAt ops S V a0 listed a w → J listed w → wpAny P .any ops Q fuel listed a w := by
  intro fuel
  induction fuel with
  | zero =>
    intro listed a w hls hf h hJ
    have hall : ∀ i, listed.getD i true = true := by
      intro i
      cases hx : listed[i]? with
      | none => rw [Array.getD_eq_getD_getElem?, hx]; rfl
      | some b =>
        rw [Array.getD_eq_getD_getElem?, hx]
        cases b with
        | true => rfl
        | false =>
          have hm : false ∈ listed.toList.filter (fun x => !x) := List.mem_filter.2 ⟨by simpa using Array.mem_of_getElem? hx, rfl⟩
          rw [List.length_eq_zero_iff.1 (Nat.le_zero.1 hf)] at hm
          cases hm
    have hr : Region.ready .any ops listed = [] := by
      rw [List.eq_nil_iff_forall_not_mem]
      intro i hi
      have := (mem_ready.1 hi).1
      rw [hall i] at this
      cases this
    exact ⟨hr, fin listed a w h (ready_all ht hls hr)⟩
  | succ fuel ih =>
    intro listed a w hls hf h hJ
    refine ⟨fun hr => fin listed a w h (ready_all ht hls hr), fun i hi => ?_⟩
    obtain ⟨h0, o, ho, hall⟩ := mem_ready.1 hi
    have hlt := (Array.getElem?_eq_some_iff.1 ho).1
    unfold wpOp
    simp only [ho]
    have hw : Region.wanted o (yielded ops a.tmps) = true := by
      unfold Region.wanted
      rw [(Tidy.guard ht ho).1]
    rw [if_pos hw]
    refine .inl (step i o ho listed a w h hJ hls h0 hall _ fun v w' hS hV hK hJ' => ih _ _ _ (by simp [hls]) ?_ (h.put ht hn ho hls hS hV hK) hJ')
    have hfi : listed.toList[i]? = some false := by
      rw [Array.getD_eq_getD_getElem?] at h0
      rw [Array.getElem?_toList]
      cases hx : listed[i]? with
      | none => rw [hx] at h0; cases h0
      | some b => rw [hx] at h0; simp at h0; rw [h0]
    have key : ∀ (l : List Bool) (i : Nat), l[i]? = some false → ((l.set i true).filter (fun x => !x)).length + 1 = (l.filter (fun x => !x)).length := by
      intro l
      induction l with
      | nil => intro i h; simp at h
      | cons b l ihl =>
        intro i h
        cases i with
        | zero => simp at h; subst h; simp
        | succ i =>
          simp at h
          have := ihl i h
          cases b <;> simp [this]
    have := key _ _ hfi
    rw [Array.toList_setIfInBounds]
    omega

/-- One operation's part. -/
def Step1J (P : Program) (ops : Array Oper) (Q : Exit → Act → World → Prop) (S : World → Prop) (V : Nat → Value → World → Prop) (J : Array Bool → World → Prop) (a0 : Act) (i : Nat) (o : Oper) : Prop :=
  ∀ (listed : Array Bool) a w, RegAt ops S V a0 listed a w → J listed w → listed.size = ops.size → listed.getD i true = false → (∀ e ∈ o.after, Region.binds .any e = true → listed.getD e.on false = true) → ∀ K : Act → World → Prop,
      (∀ v w', S w' → V i (match o.dst with | some _ => v | none => undef) w' → (∀ j u, j ≠ i → V j u w → V j u w') → J (listed.setIfInBounds i true) w' → K (a.put o.dst v) w') → o.wp P a w K Q
def StepsJ (P : Program) (ops : Array Oper) (Q : Exit → Act → World → Prop) (S : World → Prop) (V : Nat → Value → World → Prop) (J : Array Bool → World → Prop) (a0 : Act) : Nat → List Oper → Prop
  | _, [] => True
  | k, o :: l => Step1J P ops Q S V J a0 k o ∧ StepsJ P ops Q S V J a0 (k + 1) l
theorem StepsJ.at : ∀ (l : List Oper) (k : Nat), StepsJ P ops Q S V J a0 k l → ∀ i o, l[i]? = some o → Step1J P ops Q S V J a0 (k + i) o
  | [], _, _, i, o, h => by simp at h
  | x :: l, k, hs, i, o, h => by
    cases i with
    | zero => simp at h; subst h; exact hs.1
    | succ i =>
      simp at h
      have := StepsJ.at l (k + 1) hs.2 i o h
      rw [show k + (i + 1) = k + 1 + i by omega]
      exact this
theorem wp_region_stepsJ {id : Nat} {l : List Oper} {w : World} (hm : P.follows .mixedOrders = true) (ht : tidy l.toArray a0.tmps.size = true) (S : World → Prop) (V : Nat → Value → World → Prop) (J : Array Bool → World → Prop) (h0 : S w.drew)
    (hJ : J (Array.replicate l.toArray.size false) w.drew)
    (steps : StepsJ P l.toArray Q S V J a0 0 l)
    (fin : ∀ listed a w, RegAt l.toArray S V a0 listed a w → (∀ i, i < l.toArray.size → listed.getD i false = true) → Q .normal a w) : (Code.region id l.toArray true).wp P Q a0 w := by
  refine wp_region_any hm (wpAny_eachJ (J := J) ht rfl (fun i o ho => by have := StepsJ.at l 0 steps i o (by simpa using ho); rw [Nat.zero_add] at this; exact this) fin l.toArray.size _ _ _ (by simp) ?_ ⟨h0, rfl, rfl, ?_, fun _ _ => rfl⟩ hJ)
  · refine Nat.le_trans (List.length_filter_le _ _) (by simp)
  · intro i o ho hl
    rw [Array.getD_eq_getD_getElem?, Array.getElem?_replicate] at hl
    split at hl <;> cases hl
end
end
end Go.Proofs.YtibhkldnimfnkaaGreatDoor

/- Script: what is printed of a step (plain), and which row. -/
namespace Go.Proofs.YtibhkldnimfnkaaGreatDoor
section
set_option linter.unusedVariables false
set_option linter.unusedSimpArgs false
set_option linter.unusedSectionVars false
open Go.RowKit

theorem decDigits_digits : ∀ (f n : Nat), n < 10 ^ f → 0 < f → Lib.decDigits n = digitsN f n := by
  intro f
  induction f with
  | zero => intro n _ h; omega
  | succ f ih =>
    intro n hn _
    rw [Lib.decDigits, digitsN]
    by_cases h : n < 10
    · rw [dif_pos h, if_pos h]
    · rw [dif_neg h, if_neg h]
      have hf : 0 < f := by
        rcases Nat.eq_zero_or_pos f with h0 | h0
        · subst h0; simp at hn; omega
        · exact h0
      rw [ih (n / 10) (by rw [Nat.pow_succ] at hn; omega) hf]
theorem decDigits_L (n : Nat) (h : n < 10 ^ 20) : Lib.decDigits n = digitsL n := decDigits_digits 20 n h (by decide)
theorem itoa_L (n : Int) (h0 : 0 ≤ n) (h : n < 10 ^ 20) : Lib.itoa n = digitsL n.toNat := by
  rw [Lib.itoa, if_neg (by omega), decDigits_L _ (by omega)]
theorem prP_eq (p : Pl) {s : St} (h : Fit s) : prP p s = printP p s := by
  cases p with
  | nA lo hi => exact itoa_L _ h.a0 (by have := h.a1; omega)
  | nB lo hi => exact itoa_L _ h.b0 (by have := h.b1; omega)
  | ts => exact decDigits_L _ (by have := h.ts; omega)
  | who => rfl
  | key lo => rfl
  | hi => rfl
  | val => rfl
def prR (r : Rw) (s : St) : Bs := r.pl.foldl (fun o p => o ++ 32 :: prP p s) r.word
theorem prR_eq (r : Rw) {s : St} (h : Fit s) : prR r s = printR r s := by
  unfold prR printR
  congr 1
  funext o p
  rw [prP_eq p h]
/-- What printed says; and whether it may be. -/
def outS (s : St) : Bs := match rowOf s with | none => [] | some r => prR r s
def okS (s : St) : Bool := match rowOf s with | none => false | some r => decide (lineL (prR r s) = .ok s)
theorem printed_eq (s : St) : (if okS s = true then some (outS s) else none) = printedL s := by
  unfold okS outS printedL
  cases rowOf s with
  | none => rfl
  | some r =>
    simp only [decide_eq_true_eq]
    by_cases h : lineL (prR r s) = .ok s
    · have hf := line_fit h
      rw [if_pos h, ← prR_eq r hf, if_pos h]
    · rw [if_neg h]
      by_cases h2 : lineL (printR r s) = .ok s
      · exact absurd (by rw [prR_eq r (line_fit h2)]; exact h2) h
      · rw [if_neg h2]
/-- Lengths. -/
theorem quote_len (t : Bs) : (quoteL t).length ≤ 2 * t.length + 2 := by
  have : (t.flatMap quoteB).length ≤ 2 * t.length := by
    induction t with
    | nil => simp
    | cons c t ih =>
      have : (quoteB c).length ≤ 2 := by unfold quoteB; split <;> (try split) <;> (try split) <;> simp
      simp only [List.flatMap_cons, List.length_append, List.length_cons]; omega
  unfold quoteL
  rw [List.length_cons, List.length_append]
  simp only [List.length_cons, List.length_nil]
  omega
theorem prP_len (p : Pl) {s : St} (h : StOk s) : (prP p s).length ≤ 2000002 := by
  cases p with
  | nA lo hi => have := Lib.itoa_length_le s.a h.a0 h.a1; exact Nat.le_trans this (by decide)
  | nB lo hi => have := Lib.itoa_length_le s.b h.b0 h.b1; exact Nat.le_trans this (by decide)
  | ts =>
    show (Lib.decDigits s.ts).length ≤ _
    rw [decDigits_L _ (by have := h.ts; omega)]
    exact Nat.le_trans (digitsN_len 20 s.ts 20 (by have := h.ts; omega) (by decide)) (by decide)
  | who => show (if s.a % 2 = 0 then tcB else dcB).length ≤ _; split <;> decide
  | key lo => have := quote_len s.key; have := h.key; show (quoteL s.key).length ≤ _; omega
  | hi => have := quote_len s.hi; have := h.hi; show (quoteL s.hi).length ≤ _; omega
  | val => have := quote_len s.val; have := h.val; show (quoteL s.val).length ≤ _; omega
theorem rows_len : rowsL.all (fun r => decide (r.word.length ≤ 10)) = true := by decide
/-- The line so far. -/
def preR (r : Rw) (s : St) (j : Nat) : Bs := (r.pl.take j).foldl (fun o p => o ++ 32 :: prP p s) r.word
theorem preR_succ (r : Rw) (s : St) (j : Nat) (p : Pl) (hp : r.pl[j]? = some p) : preR r s (j + 1) = preR r s j ++ 32 :: prP p s := by
  unfold preR
  rw [List.take_add_one, hp, List.foldl_append]
  rfl
theorem preR_all (r : Rw) (s : St) : preR r s r.pl.length = prR r s := by unfold preR prR; rw [List.take_length]
theorem preR_len {r : Rw} (hr : r ∈ rowsL) {s : St} (h : StOk s) : ∀ j, j ≤ r.pl.length → (preR r s j).length ≤ 10 + j * 2000003 := by
  intro j
  induction j with
  | zero => intro _; have := List.all_eq_true.1 rows_len r hr; simp only [decide_eq_true_eq] at this; simp [preR]; omega
  | succ j ih =>
    intro hj
    have h1 := ih (by omega)
    rw [preR_succ r s j _ (List.getElem?_eq_getElem hj)]
    have h2 := prP_len r.pl[j] h
    simp only [List.length_append, List.length_cons]; omega

set_option maxRecDepth 100000 in
set_option maxHeartbeats 1000000 in
/-- printed$1: is it this step's row? -/
theorem printed1_c (sb : Nat) (s : St) (w : World) (hb : Blk w sb (stA s) 46) : AskR w 53 #[.pointer (some ⟨sb, 0, none⟩)] (fun r => r.kind == s.kind && r.ck == s.ck) := by
  refine ⟨fun _ _ => rfl, fun W hm r b n m => ?_⟩
  have hbw := hm.blk hb (by simp)
  obtain ⟨o0, _, _, o3, _⟩ := st_cells hbw
  have ol := hbw.lt
  have hmA := (Mod.refl [] W).alloc (.cells #[.string (str r.word), .int .i64 r.kind, .int .i64 r.ck, .slice b n m] 93)
  have HMA := hid hmA
  clear hb hbw hmA
  by_cases h : r.kind = s.kind
  · go_enter Tryz.func53, Tryz.ntmps53
    go_wp2
    go_ret
    exact ⟨by simp [h], (Mod.refl [] W).alloc _⟩
  · go_enter Tryz.func53, Tryz.ntmps53
    go_wp2
    go_ret
    exact ⟨by simp [h], (Mod.refl [] W).alloc _⟩
end
end Go.Proofs.YtibhkldnimfnkaaGreatDoor

/- Script: a step's line, tried. -/
namespace Go.Proofs.YtibhkldnimfnkaaGreatDoor
section
set_option linter.unusedVariables false
set_option linter.unusedSimpArgs false
set_option linter.unusedSectionVars false
open Go.RowKit

theorem st_ext {u s : St} (h1 : u.kind = s.kind) (h2 : u.a = s.a) (h3 : u.b = s.b) (h4 : u.ck = s.ck) (h5 : (u.ts : Int) = (s.ts : Int)) (h6 : u.key = s.key) (h7 : u.hi = s.hi) (h8 : u.val = s.val) : u = s := by
  cases u
  cases s
  simp only [St.mk.injEq] at *
  exact ⟨h1, h2, h3, h4, by omega, h6, h7, h8⟩
/-- Does a line come back as this step? -/
def backS (t : Bs) (s : St) : Bool := match lineL t with | .ok u => decide (u = s) | _ => false
def TryG (ib : Nat) (t : Bs) (s : St) (w : World) (e : Ending) (w' : World) : Prop := Mod [ib] w w' ∧ match lineL t with
  | .bad c => e = .panicked (pan c) ∧ ∃ b, Blk w' ib #[.bool b] 4
  | _ => e = .returned (.tuple #[]) ∧ Blk w' ib #[.bool (backS t s)] 4

set_option maxRecDepth 100000 in
set_option maxHeartbeats 2000000 in
theorem printed2_c (w : World) (tb sb ib : Nat) (t : Bs) (s : St) (b0 : Bool) (ht : Blk w tb #[.string (str t)] 9) (hs : Blk w sb (stA s) 46) (hi : Blk w ib #[.bool b0] 4) (htl : t.length < 4294967000) :
    Calls Tryz.prog 54 #[.pointer (some ⟨tb, 0, none⟩), .pointer (some ⟨sb, 0, none⟩), .pointer (some ⟨ib, 0, none⟩)] w (TryG ib t s w) := by
  have t0 := ht.cell 0
  have tl := ht.lt
  simp only [List.getElem?_toArray, List.getElem?_cons_zero] at t0
  have HLC := hid (line_c t w htl)
  have HS := hid hs
  have HI := hid hi
  have HG : Hid (∀ e w', TryG ib t s w e w' = (Mod [ib] w w' ∧ match lineL t with
    | .bad c => e = .panicked (pan c) ∧ ∃ b, Blk w' ib #[.bool b] 4
    | .ok u => e = .returned (.tuple #[]) ∧ Blk w' ib #[.bool (decide (u = s))] 4
    | .blank => e = .returned (.tuple #[]) ∧ Blk w' ib #[.bool false] 4)) := by
    intro e w'
    unfold TryG backS
    cases lineL t <;> rfl
  clear ht hs hi
  go_enter Tryz.func54, Tryz.ntmps54
  go_wp2_with fail
  refine HLC.out.mono ?_
  obtain ⟨o, ho⟩ : ∃ o, o = lineL t := ⟨_, rfl⟩
  rw [← ho] at HG ⊢
  clear HLC ho
  rintro e w1 ⟨hm, he⟩
  have HM := hid hm
  have hi1 := hm.blk HI.out (by simp)
  have i0 := hi1.cell 0
  have if0 := hi1.free 0
  have il := hi1.lt
  simp only [List.getElem?_toArray, List.getElem?_cons_zero] at i0
  have HI1 := hid hi1
  cases o with
  | bad c =>
    obtain rfl := he
    refine ⟨rfl, ?_⟩
    rw [HG.out]
    exact ⟨hm.any, rfl, _, HI1.out⟩
  | blank =>
    obtain rfl := he
    clear hm hi1
    go_wp2_with fail
    go_end0
    rw [HG.out]
    exact ⟨(HM.out.any.setCell (p := ⟨ib, 0, none⟩) (Or.inl (by simp)) _).alloc _, rfl, (HI1.out.set 0 _).alloc _⟩
  | ok u =>
    obtain rfl := he
    have hs1 := hm.blk HS.out (by simp)
    obtain ⟨s0, s1, s2, s3, s4, s5, s6, s7⟩ := st_cells hs1
    have sl := hs1.lt
    clear hm hi1 hs1
    by_cases h : u = s
    · have HG2 : Hid (∀ e w', TryG ib t s w e w' = (Mod [ib] w w' ∧ e = .returned (.tuple #[]) ∧ Blk w' ib #[.bool true] 4)) := by
        intro e w'
        rw [HG.out]
        simp [h]
      subst h
      clear HG
      go_wp2_with fail
      go_end0
      rw [HG2.out]
      exact ⟨(HM.out.any.setCell (p := ⟨ib, 0, none⟩) (Or.inl (by simp)) _).alloc _, rfl, (HI1.out.set 0 _).alloc _⟩
    · have HG2 : Hid (∀ e w', TryG ib t s w e w' = (Mod [ib] w w' ∧ e = .returned (.tuple #[]) ∧ Blk w' ib #[.bool false] 4)) := by
        intro e w'
        rw [HG.out]
        simp [h]
      have H := hid h
      clear HG h
      go_wp2_with fail
      all_goals first
        | exact absurd (st_ext (by assumption) (by assumption) (by assumption) (by assumption) (by assumption) (by assumption) (by assumption) (by assumption)) H.out
        | (go_end0
           rw [HG2.out]
           exact ⟨(HM.out.any.setCell (p := ⟨ib, 0, none⟩) (Or.inl (by simp)) _).alloc _, rfl, (HI1.out.set 0 _).alloc _⟩)

set_option maxRecDepth 100000 in
/-- .. done safely. -/
theorem try_c (w : World) (tb sb ib : Nat) (t : Bs) (s : St) (b0 : Bool) (ht : Blk w tb #[.string (str t)] 9) (hs : Blk w sb (stA s) 46) (hi : Blk w ib #[.bool b0] 4) (htl : t.length < 4294967000) :
    Calls Tryz.prog 22 #[.func (.func 54) #[] #[.pointer (some ⟨tb, 0, none⟩), .pointer (some ⟨sb, 0, none⟩), .pointer (some ⟨ib, 0, none⟩)]] w fun e w' => Mod [ib] w w' ∧
      ∃ (b1 : Bool) (c : Int), e = .returned (.int .i64 c) ∧ Blk w' ib #[.bool b1] 4 ∧ (b1 && c == 0) = backS t s := by
  have hm0 := (Mod.refl [] w).alloc (.cells #[.int .i64 0] 27)
  have hil := hi.lt
  refine (safely_c w _ _ (fun _ _ => rfl) (fun o W => Mod [ib] (w.alloc (.cells #[.int .i64 0] 27)) W ∧ ∃ (b1 : Bool), Blk W ib #[.bool b1] 4 ∧ (b1 && o.getD 0 == 0) = backS t s) ?_).mono ?_
  · refine (printed2_c _ tb sb ib t s b0 (hm0.blk ht (by simp)) (hm0.blk hs (by simp)) (hm0.blk hi (by simp)) htl).mono ?_
    rintro e W ⟨hm, he⟩
    refine ⟨⟨_, hm.blk (Blk.new w _ _) (by simp; omega)⟩, ?_⟩
    cases h : lineL t with
    | bad c =>
      rw [h] at he
      obtain ⟨he, b, hb⟩ := he
      refine .inr ⟨c, he, hm, b, hb, ?_⟩
      have hc := bad_ne h
      have : ¬ (c : Int) = 0 := by omega
      unfold backS
      rw [h]
      simp [hc]
    | blank =>
      rw [h] at he
      exact .inl ⟨he.1, hm, _, he.2, by simp⟩
    | ok u =>
      rw [h] at he
      exact .inl ⟨he.1, hm, _, he.2, by simp⟩
  · rintro e w' ⟨o, w1, ⟨hm, b, hb, hR⟩, hs1, hs2, hm2, rfl⟩
    exact ⟨(hm0.trans hm (m := [ib]) (fun _ h _ => by cases h) (fun _ h _ => h)).trans hm2 (fun _ h _ => h) (fun x hx hlt => by simp at hx; omega), b, _, rfl, hm2.blk hb (by simp; omega), hR⟩
end
end Go.Proofs.YtibhkldnimfnkaaGreatDoor
