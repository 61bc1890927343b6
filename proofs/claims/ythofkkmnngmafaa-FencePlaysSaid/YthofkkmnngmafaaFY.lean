/- What is done to a fence, all it needs kept together; works. -/
import Derived.Test.YthofkkmnngmafaaFX
namespace Go.Proofs.Ythofkkmnngmafaa
set_option linter.unusedVariables false
set_option linter.unusedSimpArgs false
set_option linter.unusedSectionVars false
open Go.RowKit

structure Fok (f : Fc) : Prop where
  good : Good f
  ok : OkL f.lv
theorem Fok.one {p : Nat} (h0 : p ≠ 0) (hp : p < 18446744073709551616) : Fok (fe0 p) := ⟨⟨trivial, by show SrtL [(mt, p)]; simp⟩, OkL.one h0 hp⟩
theorem Fok.ins_lv {f : Fc} (h : Fok f) (sep : ByteArray) (pid : Nat) : (insFF f sep pid).lv = insLL f.lv sep pid := by
  unfold insFF insLL
  split
  · rename_i ha
    have hn := h.ok.new (insAnsL_zero.1 ha).1 (insAnsL_zero.1 ha).2.2.1
    exact (insF_ok h.good pid (insAnsL_zero.1 ha).1 hn).1
  · rfl
theorem Fok.ins {f : Fc} (h : Fok f) (sep : ByteArray) {pid : Nat} (hp : pid < 18446744073709551616) : Fok (insFF f sep pid) := by
  refine ⟨?_, by rw [h.ins_lv]; exact h.ok.ins hp⟩
  unfold insFF
  split
  · rename_i ha
    have hn := h.ok.new (insAnsL_zero.1 ha).1 (insAnsL_zero.1 ha).2.2.1
    exact (insF_ok h.good pid (insAnsL_zero.1 ha).1 hn).2.1
  · exact h.good
theorem Fok.rem_lv {f : Fc} (h : Fok f) (sep : ByteArray) : (remFF f sep).lv = remLL f.lv sep := by
  unfold remFF remLL
  by_cases hm : sep ∈ f.seps
  · rw [if_pos hm, if_pos hm]
    have hsl := seps_leaf h.good hm
    exact (remF_ok h.good hsl.1 hsl.2).1
  · rw [if_neg hm, if_neg hm]
theorem Fok.rem {f : Fc} (h : Fok f) (sep : ByteArray) : Fok (remFF f sep) := by
  by_cases hm : sep ∈ f.seps
  · have hsl := seps_leaf h.good hm
    refine ⟨?_, ?_⟩
    · unfold remFF
      rw [if_pos hm]
      exact (remF_ok h.good hsl.1 hsl.2).2.1
    · rw [h.rem_lv]
      unfold remLL
      rw [if_pos hm]
      exact h.ok.without hsl.1
  · unfold remFF
    rw [if_neg hm]
    exact h
/-- A key's leaf. -/
def findL (l : List Lf) (k : ByteArray) : Nat := (l.foldl (fun p x => if SL k x.1 then p else x.2) 0)
theorem findL_cut {A B : List Lf} {b k : ByteArray} {p : Nat} (h1 : ¬ SL k b) (h2 : ∀ x ∈ B, SL k x.1) : findL (A ++ (b, p) :: B) k = p := by
  unfold findL
  rw [List.foldl_append, List.foldl_cons, if_neg h1]
  clear h1
  induction B with
  | nil => rfl
  | cons x B ih =>
    rw [List.foldl_cons, if_pos (h2 x (by simp))]
    exact ih fun y hy => h2 y (by simp [hy])
theorem Good.find {f : Fc} (h : Good f) (k : ByteArray) : findT f.d f.t k = findL f.lv k := by
  obtain ⟨A, B, b, e, h1, _, h3⟩ := find_ok f.d f.t mt k h.fan h.srt (SL_mt k)
  have e' : f.lv = A ++ (b, findT f.d f.t k) :: B := e
  rw [e', findL_cut h1 h3]

section
variable {w0 w : World} {L0 : List Nat} {fb : Nat} {f : Fc} {U : Res} [Keep U]
theorem find_h (h : Hld w0 L0 (star (feR fb f) U) w) (hf : Fok f) (key : ByteArray) :
    Calls Try.prog 15 #[.pointer (some ⟨fb, 0, none⟩), .string key] w fun e w' => e = .returned (.int .u64 (findL f.lv key : Nat)) ∧ Hld w0 L0 (star (feR fb f) U) w' := by
  obtain ⟨L, hL⟩ := h.res
  refine (find_c w fb f key L hL hf.good).mono ?_
  rintro e w' ⟨rfl, hm⟩
  exact ⟨by rw [hf.good.find], h.mod hm⟩
theorem ins_h (h : Hld w0 L0 (star (feR fb f) U) w) (hf : Fok f) (sep : ByteArray) (pid : Nat) (hs : sep.size ≤ 9223372036854775807) :
    Calls Try.prog 12 #[.pointer (some ⟨fb, 0, none⟩), .string sep, .int .u64 (pid : Nat)] w fun e w' => e = .returned (.int .i64 (insAnsL f.lv sep pid : Nat)) ∧ Hld w0 L0 (star (feR fb (insFF f sep pid)) U) w' :=
  finsert_c w0 L0 w fb f sep pid U h hf.good hf.ok.len hs
theorem rem_h (h : Hld w0 L0 (star (feR fb f) U) w) (hf : Fok f) (sep : ByteArray) :
    Calls Try.prog 11 #[.pointer (some ⟨fb, 0, none⟩), .string sep] w fun e w' => e = .returned (.int .i64 (remAnsL f.lv sep : Nat)) ∧ Hld w0 L0 (star (feR fb (remFF f sep)) U) w' :=
  fremove_c w0 L0 w fb f sep U h hf.good hf.ok.len
/-- A list that may be read. -/
def lstR {X : Type} (c : X → List Value) (v : Value) (l : List X) : Res := fun w L => Lx 1 c w v l ∧ L = []
theorem img_h (h : Hld w0 L0 (star (feR fb f) U) w) (hf : Fok f) :
    Calls Try.prog 21 #[.pointer (some ⟨fb, 0, none⟩)] w fun e w' => e = .returned (.string (imgB f.lv)) ∧ Hld w0 L0 (star (feR fb f) U) w' :=
  fimage_c w0 L0 w fb f U h hf.good hf.ok
theorem seps_h (h : Hld w0 L0 (star (feR fb f) U) w) (hf : Fok f) :
    Calls Try.prog 10 #[.pointer (some ⟨fb, 0, none⟩)] w fun e w' => ∃ v, e = .returned v ∧ Hld w0 L0 (star (segR 9 1 v (sepsL f.lv).length (flat stC (sepsL f.lv))) (star (feR fb f) U)) w' := by
  refine (seps_c w0 L0 w fb f U h hf.good (by have := hf.ok.len; omega)).mono ?_
  rintro e w' ⟨v, rfl, h1⟩
  rw [show f.lv.length - 1 = (sepsL f.lv).length by simp] at h1
  exact ⟨v, rfl, h1⟩
theorem pids_h (h : Hld w0 L0 (star (feR fb f) U) w) (hf : Fok f) :
    Calls Try.prog 13 #[.pointer (some ⟨fb, 0, none⟩)] w fun e w' => ∃ v, e = .returned v ∧ Hld w0 L0 (star (rowR 26 1 v (pidsL f.lv).length (flat idC (pidsL f.lv))) (star (feR fb f) U)) w' := by
  refine (pids_c w0 L0 w fb f U h hf.good (by have := hf.ok.len; omega)).mono ?_
  rintro e w' ⟨v, rfl, h1⟩
  rw [show f.lv.length = (pidsL f.lv).length by simp] at h1
  exact ⟨v, rfl, h1⟩
theorem depth_h (h : Hld w0 L0 (star (feR fb f) U) w) (hf : Fok f) :
    Calls Try.prog 14 #[.pointer (some ⟨fb, 0, none⟩)] w fun e w' => e = .returned (.int .i64 (f.d : Nat)) ∧ w = w' := by
  obtain ⟨L, hL⟩ := h.res
  refine fdepth_c w fb f L hL hf.good ?_
  have h1 := (lv_count f.d f.t mt hf.good.fan).1
  have h2 : f.lv.length ≤ 60 := hf.ok.len
  have h3 : f.d < 2 ^ f.d := Nat.lt_two_pow_self
  unfold Fc.lv at h2
  omega
theorem new_h {w : World} (h : Hld w0 L0 U w) (p : Nat) (hp : p ≠ 0) :
    Calls Try.prog 9 #[.int .u64 (p : Nat)] w fun e w' => e = .returned (.pointer (some ⟨w.heap.size, 0, none⟩)) ∧ Hld w0 L0 (star (feR w.heap.size (fe0 p)) U) w' := by
  refine (fnew_c w p hp).mono ?_
  intro e w' hg
  obtain ⟨r, rfl, h1⟩ := h.new hg
  obtain ⟨rfl, h2⟩ := h1.fact
  exact ⟨rfl, h2⟩
theorem seg_lx {v : Value} {l : List ByteArray} (h : Hld w0 L0 (star (segR 9 1 v l.length (flat stC l)) U) w) (hl : l.length ≤ 1000) : Lx 1 stC w v l := by
  obtain ⟨L, hL⟩ := h.res
  exact Seg.lx st_lays hL (by omega)
theorem row_lx {v : Value} {l : List Nat} (h : Hld w0 L0 (star (rowR 26 1 v l.length (flat idC l)) U) w) : Lx 1 idC w v l := by
  obtain ⟨L, hL⟩ := h.res
  exact Own.lx id_lays hL
end
theorem Top.toHld {w0 w : World} {R : Res} (h : Top w0 R w) : Hld w0 [] R w := h.hld

/-- The fence of works, step by step. -/
def wk1 : Fc := insFF (fe0 7) ⟨#[109]⟩ 8
def wk2 : Fc := insFF wk1 ⟨#[99]⟩ 9
def wk3 : Fc := remFF wk2 ⟨#[99]⟩
theorem wk_lv : wk1.lv = [(mt, 7), (⟨#[109]⟩, 8)] ∧ wk2.lv = [(mt, 7), (⟨#[99]⟩, 9), (⟨#[109]⟩, 8)] ∧ wk3.lv = [(mt, 7), (⟨#[109]⟩, 8)] := by
  refine ⟨?_, ?_, ?_⟩
  · decide +kernel
  · decide +kernel
  · decide +kernel
theorem wk_img : imgB [(mt, 7), (⟨#[109]⟩, 8)] = ⟨#[2, 7, 1, 109, 8]⟩ := by
  show imgA 2 [(mt, 7), (⟨#[109]⟩, 8)] = _
  rw [imgA_tail _ _ _ (by simp [mt])]
  unfold tailB
  simp only [List.foldr_cons, List.foldr_nil]
  unfold textB numB
  rw [Wire.digits_lt (n := 2) (by decide), Wire.digits_lt (n := 7) (by decide), Wire.digits_lt (n := 8) (by decide), Wire.digits_lt (n := (⟨#[109]⟩ : ByteArray).size) (by decide)]
  decide +kernel
theorem wk_said : insAnsL (fe0 7).lv ⟨#[109]⟩ 8 = 0 ∧ insAnsL wk1.lv ⟨#[99]⟩ 9 = 0 ∧ findL wk2.lv ⟨#[97]⟩ = 7 ∧ findL wk2.lv ⟨#[100]⟩ = 9 ∧ findL wk2.lv ⟨#[109]⟩ = 8 ∧ remAnsL wk2.lv ⟨#[99]⟩ = 0 ∧ findL wk3.lv ⟨#[100]⟩ = 7 := by
  rw [wk_lv.1, wk_lv.2.1, wk_lv.2.2]
  decide +kernel
theorem wk_img3 : imgB wk3.lv = ⟨#[2, 7, 1, 109, 8]⟩ := by rw [wk_lv.2.2]; exact wk_img
theorem wk_ok : Fok wk1 ∧ Fok wk2 ∧ Fok wk3 := by
  have h0 := Fok.one (p := 7) (by decide) (by decide)
  have h1 := h0.ins ⟨#[109]⟩ (pid := 8) (by decide)
  have h2 := h1.ins ⟨#[99]⟩ (pid := 9) (by decide)
  exact ⟨h1, h2, h2.rem _⟩
set_option maxRecDepth 100000 in
set_option maxHeartbeats 4000000 in
theorem works_c (w : World) :
    Calls Try.prog 17 #[] w fun e w' => e = .returned (.bool true) ∧ Mod [] w w' := by
  have H0 : Hld w [] emp w := Hld.start rfl
  obtain ⟨s1, s2, s3, s4, s5, s6, s7⟩ := wk_said
  have S := hid (⟨s1, s2, s3, s4, s5, s6, s7, wk_img3⟩ : _ ∧ _ ∧ _ ∧ _ ∧ _ ∧ _ ∧ _ ∧ _)
  clear s1 s2 s3 s4 s5 s6 s7
  go_enter Try.func17, Try.ntmps17
  go_wp2_with fail
  refine (new_h H0 7 (by decide)).mono ?_
  rintro e w1 ⟨rfl, H1⟩
  obtain ⟨fb, hfb⟩ : ∃ fb, fb = w.heap.size := ⟨_, rfl⟩
  rw [← hfb] at H1 ⊢
  have H1 := hid H1
  clear H0 hfb
  go_wp2_with fail
  refine (ins_h H1.out (Fok.one (p := 7) (by decide) (by decide)) ⟨#[109]⟩ 8 (by decide)).mono ?_
  rintro e w2 ⟨rfl, H2⟩
  rw [S.out.1]
  have H2 : Hid (Hld w [] (star (feR fb wk1) emp) w2) := H2
  clear H1
  go_wp2_with fail
  refine (ins_h H2.out (wk_ok.1) ⟨#[99]⟩ 9 (by decide)).mono ?_
  rintro e w3 ⟨rfl, H3⟩
  rw [S.out.2.1]
  have H3 : Hid (Hld w [] (star (feR fb wk2) emp) w3) := H3
  clear H2
  go_wp2_with fail
  refine (find_h H3.out (wk_ok.2.1) ⟨#[97]⟩).mono ?_
  rintro e w4 ⟨rfl, H4⟩
  rw [S.out.2.2.1]
  have H4 := hid H4
  clear H3
  go_wp2_with fail
  refine (find_h H4.out (wk_ok.2.1) ⟨#[100]⟩).mono ?_
  rintro e w5 ⟨rfl, H5⟩
  rw [S.out.2.2.2.1]
  have H5 := hid H5
  clear H4
  go_wp2_with fail
  refine (find_h H5.out (wk_ok.2.1) ⟨#[109]⟩).mono ?_
  rintro e w6 ⟨rfl, H6⟩
  rw [S.out.2.2.2.2.1]
  have H6 := hid H6
  clear H5
  go_wp2_with fail
  refine (rem_h H6.out (wk_ok.2.1) ⟨#[99]⟩).mono ?_
  rintro e w7 ⟨rfl, H7⟩
  rw [S.out.2.2.2.2.2.1]
  have H7 : Hid (Hld w [] (star (feR fb wk3) emp) w7) := H7
  clear H6
  go_wp2_with fail
  refine (find_h H7.out (wk_ok.2.2) ⟨#[100]⟩).mono ?_
  rintro e w8 ⟨rfl, H8⟩
  rw [S.out.2.2.2.2.2.2.1]
  have H8 := hid H8
  clear H7
  go_wp2_with fail
  refine (img_h H8.out (wk_ok.2.2) ).mono ?_
  rintro e w9 ⟨rfl, H9⟩
  rw [S.out.2.2.2.2.2.2.2]
  have H9 := hid H9
  clear H8
  go_wp2
  go_ret
  exact ⟨rfl, H9.out.m⟩
end Go.Proofs.Ythofkkmnngmafaa
