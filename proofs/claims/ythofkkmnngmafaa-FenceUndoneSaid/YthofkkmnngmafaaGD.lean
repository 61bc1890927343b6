/- FenceUndone: the walk. -/
import Derived.Test.YthofkkmnngmafaaGB
namespace Go.Proofs.Ythofkkmnngmafaa
set_option linter.unusedVariables false
set_option linter.unusedSimpArgs false
set_option linter.unusedSectionVars false
open Go.RowKit

/-- A leaf that is inserted: it is found; without it all is as it was. -/
theorem Fok.undone {f : Fc} (hf : Fok f) {sep : ByteArray} {p : Nat} (ha : insAnsL f.lv sep p = 0) :
    findL (insFF f sep p).lv sep = p ∧ remAnsL (insFF f sep p).lv sep = 0 ∧ remLL (insFF f sep p).lv sep = f.lv ∧ (insFF f sep p).lv.length = f.lv.length + 1 := by
  have h1 := insAnsL_zero.1 ha
  have hn := hf.ok.new h1.1 h1.2.2.1
  obtain ⟨_, _, A, B, hA0, e, hA, hB⟩ := insF_ok hf.good p h1.1 hn
  have el : (insFF f sep p).lv = A ++ (sep, p) :: B := by
    rw [hf.ins_lv]
    unfold insLL
    rw [if_pos ha, e, putL_cut hA hB]
  have hmem : sep ∈ sepsL (A ++ (sep, p) :: B) := by
    cases A with
    | nil => exact absurd rfl hA0
    | cons x A => show sep ∈ (A ++ (sep, p) :: B).map (·.1); simp
  rw [el, e]
  refine ⟨findL_cut (SL_irrefl _) hB, if_pos hmem, ?_, by simp; omega⟩
  unfold remLL
  rw [if_pos hmem]
  have h2 : without A sep = A := without_all fun x hx k => by
    have := hA x hx
    rw [k] at this
    exact SL_irrefl _ this
  have h3 : without B sep = B := without_all fun x hx k => by
    have := hB x hx
    rw [k] at this
    exact SL_irrefl _ this
  unfold without at h2 h3 ⊢
  rw [List.filter_append, List.filter_cons, if_neg (by simp), h2, h3]
theorem imgB_inj {l m : List Lf} (hl : OkL l) (hm : OkL m) (h : imgB l = imgB m) : l = m := by
  have h1 := parse_img hl
  rw [h, parse_img hm] at h1
  exact (Option.some.inj h1).symm

set_option maxRecDepth 100000 in
set_option maxHeartbeats 8000000 in
theorem undone_walk (a : Option Addr) (cap : Nat) (xs : List Nat) (s0 : ByteArray) (pid : Nat) (w : World) (h : Lx 1 u8C w (.slice a xs.length cap) xs) (hx : ∀ x ∈ xs, x < 256) (hs0 : s0.size ≤ 9223372036854775807) (hp8 : pid < 256) :
    Calls Try.prog 5 #[.slice a xs.length cap, .string s0, .int .u8 (pid : Nat)] w fun e w' => e = .returned (.bool true) ∧ Mod [] w w' := by
  have hlen := h.len.2
  have HL := hid h
  have HX := hid hx
  have H0 : Hld w [] emp w := Hld.start rfl
  clear h hx
  go_enter Try.func5, Try.ntmps5
  go_wp2_with fail
  refine (new_h H0 255 (by decide)).mono ?_
  rintro e w1 ⟨rfl, H1⟩
  obtain ⟨fb, hfb⟩ : ∃ fb, fb = w.heap.size := ⟨_, rfl⟩
  rw [← hfb] at H1 ⊢
  have H1 := hid H1
  clear H0 hfb
  go_wp2
  go_loopg [8] 59 (fun g q wr => ∃ (i : Nat) (f : Fc), q = .int .i64 i ∧ i + g = 59 ∧ i ≤ xs.length ∧ Hid (Fok f) ∧ Hid (Hld w [] (star (feR fb f) emp) wr))
  · exact ⟨0, fe0 255, rfl, rfl, by omega, Fok.one (by decide) (by decide), H1.out⟩
  · clear H1
    obtain ⟨i, f, rfl, hig, hix, hF, hH⟩ := hrel
    obtain ⟨G, hG⟩ : ∃ G, G = gk := ⟨_, rfl⟩
    by_cases hlt : i < xs.length ∧ i < 59
    · obtain ⟨hlt, hlt2⟩ := hlt
      have hp : 0 < xs.length := by omega
      obtain ⟨m, hm⟩ : ∃ m, m = (i + 1) % xs.length := ⟨_, rfl⟩
      have hml : m < xs.length := by rw [hm]; exact Nat.mod_lt _ hp
      obtain ⟨x, hxx⟩ : ∃ x, xs[i]? = some x := ⟨_, List.getElem?_eq_getElem hlt⟩
      obtain ⟨y, hyy⟩ : ∃ y, xs[m]? = some y := ⟨_, List.getElem?_eq_getElem hml⟩
      have hx8 := HX.out x (List.mem_of_getElem? hxx)
      have hy8 := HX.out y (List.mem_of_getElem? hyy)
      have hi1 : (i : Int) < (xs.length : Int) := by omega
      have hi2 : (i : Int) < 59 := by omega
      have hi0 : (0 : Int) ≤ (i : Int) := by omega
      have hm1 : (m : Int) < (xs.length : Int) := by omega
      have hm0 : (0 : Int) ≤ (m : Int) := by omega
      have htm : Int.tmod ((i : Int) + 1) (xs.length : Int) = (m : Int) := by rw [hm]; rfl
      have hl0 : ¬ xs = [] := fun e => by rw [e] at hp; simp at hp
      have hl1 : ¬ (xs.length : Int) = 0 := by omega
      have hw1 : IntKind.i64.wrap ((i : Int) + 1) = (i : Int) + 1 := IntWalk.i64_in _ ⟨by omega, by omega⟩
      obtain ⟨n, hn⟩ : ∃ n : Nat, n = 1 + i := ⟨_, rfl⟩
      have hw3 : IntKind.i64.wrap (m : Int) = (m : Int) := IntWalk.i64_in _ ⟨by omega, by omega⟩
      have hw2 : IntKind.i64.wrap (1 + (i : Int)) = 1 + (i : Int) := IntWalk.i64_in _ ⟨by omega, by omega⟩
      have hw4 : IntKind.u64.wrap (1 + (i : Int)) = 1 + (i : Int) := by rw [IntKind.wrap_u64]; omega
      obtain ⟨ba, oa, rfl, _⟩ := HL.out.cell1 (u := fun n => .int .u8 (n : Nat)) (fun _ => rfl) hxx
      have hC : Hid (∀ X, Mod [] w X → X.cell? ⟨ba, oa + i, none⟩ = some (.int .u8 (x : Nat)) ∧ X.cell? ⟨ba, oa + m, none⟩ = some (.int .u8 (y : Nat))) := by
        intro X hX
        obtain ⟨_, _, e, c0⟩ := (HL.out.mod hX).cell1 (u := fun n => .int .u8 (n : Nat)) (fun _ => rfl) hxx
        obtain ⟨_, _, e', c1⟩ := (HL.out.mod hX).cell1 (u := fun n => .int .u8 (n : Nat)) (fun _ => rfl) hyy
        cases e
        cases e'
        exact ⟨c0, c1⟩
      obtain ⟨c0, c1⟩ := hC.out _ hH.out.drew.m
      have hcv : (convert 48 9 (.slice (some ⟨wr.heap.size, 0, none⟩) 2 2)).run Try.prog (wr.alloc (.cells #[.int .u8 (x : Nat), .int .u8 (y : Nat)] 5)).drew = .ok (.string (two x y)) (wr.alloc (.cells #[.int .u8 (x : Nat), .int .u8 (y : Nat)] 5)).drew := conv_two wr.drew x y
      have hN := hid ((hH.out.mod ((Mod.refl [] wr).alloc (.cells #[.int .u8 (x : Nat), .int .u8 (y : Nat)] 5))).drew)
      have hins := ins_h hN.out hF.out (two x y) n (by rw [two_size]; omega)
      rw [show ((n : Nat) : Int) = 1 + (i : Int) by omega] at hins
      have hins := hid hins
      clear hxx hyy hm
      go_upto_region 7 with (fail)
      go_region_with (go_at_call 12; refine hins.out.mono ?_; rintro e w' ⟨rfl, hm⟩)
      all_goals
        have hm := hid hm
        go_wp2
        go_roundg (gk - 1)
        case measure => omega
        case rel => exact ⟨i + 1, _, by go_num, by omega, by omega, hF.out.ins (two x y) (pid := n) (by omega), hm⟩
    · have hor : ¬ (i : Int) < (xs.length : Int) ∨ ((i : Int) < (xs.length : Int) ∧ ¬ (i : Int) < 59) := by omega
      have him := hid (img_h hH.out hF.out)
      clear hlt hig hix hH
      have hcz := cutB_size s0 20
      have hu1 : IntKind.u64.wrap ((pid : Int) % 100) = (pid : Int) % 100 := by rw [IntKind.wrap_u64]; omega
      have hu2 : IntKind.u64.wrap (100 + (pid : Int) % 100) = 100 + (pid : Int) % 100 := by rw [IntKind.wrap_u64]; omega
      obtain ⟨p, hp⟩ : ∃ p : Nat, p = 100 + pid % 100 := ⟨_, rfl⟩
      have hpe : ((p : Nat) : Int) = 100 + (pid : Int) % 100 := by omega
      have hpl : p < 18446744073709551616 := by omega
      clear hp
      rcases hor with hk1 | ⟨hk1, hk2⟩
      all_goals
        go_wp2_with fail
        refine him.out.mono ?_
        rintro e w2 ⟨rfl, H2⟩
        obtain ⟨I1, hI1⟩ : ∃ I1, I1 = imgB f.lv := ⟨_, rfl⟩
        rw [← hI1]
        have HI1 := hid hI1
        clear hI1
        have H2 := hid H2
        go_wp2_with fail
        obtain ⟨sep, hsep⟩ : ∃ sep, sep = s0.extract 0 (min (s0.size : Int) 20).toNat := ⟨_, rfl⟩
        rw [← hsep]
        have hsz : sep.size ≤ 20 := by
          rw [hsep, ByteArray.size_extract]
          omega
        have hins := ins_h H2.out hF.out sep p (by omega)
        rw [hpe] at hins
        clear hsep
        have hpar := hid (parse_img hF.out.ok)
        have hpz := imgB_size hF.out.ok
        rw [← HI1.out] at hpar hpz
        by_cases ha : insAnsL f.lv sep p = 0
        case' pos =>
          have hun := hF.out.undone ha
          have hf2 := hF.out.ins sep hpl
          have hf3 := hf2.rem sep
          have hne : imgB (insFF f sep p).lv ≠ imgB f.lv := fun e => by
            have := imgB_inj hf2.ok hF.out.ok e
            have h4 := hun.2.2.2
            rw [this] at h4
            omega
          have hlv3 : (remFF (insFF f sep p) sep).lv = f.lv := by rw [hf2.rem_lv]; exact hun.2.2.1
          have HU := hid (⟨hun, hf2, hf3, hlv3⟩ : _ ∧ _ ∧ _ ∧ _)
          rw [ha] at hins
          obtain ⟨I2, hI2'⟩ : ∃ I2, I2 = imgB (insFF f sep p).lv := ⟨_, rfl⟩
          rw [← HI1.out, ← hI2'] at hne
          have hI2 := hid hI2'
          clear hI2'
          have hb1 := eqS_no hne
          have hb3 : ¬ I2.toList = I1.toList := by simpa using hb1
          clear hun hf2 hf3 hne hlv3 ha
          refine hins.mono ?_
          rintro e w3 ⟨rfl, H3⟩
          have H3 := hid H3
          clear hins H2
          go_wp2_with fail
          refine (img_h H3.out HU.out.2.1).mono ?_
          rintro e w4 ⟨rfl, H4⟩
          rw [← hI2.out]
          have H4 := hid H4
          clear H3 hI2
          go_wp2_with fail
          refine (find_h H4.out HU.out.2.1 sep).mono ?_
          rintro e w5 ⟨rfl, H5⟩
          rw [HU.out.1.1, hpe]
          have H5 := hid H5
          clear H4
          go_wp2_with fail
          refine (rem_h H5.out HU.out.2.1 sep).mono ?_
          rintro e w6 ⟨rfl, H6⟩
          rw [HU.out.1.2.1]
          obtain ⟨f3, hF3, H6⟩ : ∃ f3, Hid (Fok f3 ∧ f3.lv = f.lv) ∧ Hid (Hld w [] (star (feR fb f3) emp) w6) := ⟨_, ⟨HU.out.2.2.1, HU.out.2.2.2⟩, H6⟩
          clear H5 hb1 hb3 HU
          go_wp2_with fail
        case' neg =>
          have ha1 : ((insAnsL f.lv sep p : Nat) : Int) ≠ 0 := by omega
          have ha2 : (((insAnsL f.lv sep p : Nat) : Int) == 0) = false := beq_eq_false_iff_ne.2 ha1
          have hff : insFF f sep p = f := by unfold insFF; rw [if_neg ha]
          refine hins.mono ?_
          rintro e w6 ⟨rfl, H6⟩
          rw [hff] at H6
          obtain ⟨f3, hF3, H6⟩ : ∃ f3, Hid (Fok f3 ∧ f3.lv = f.lv) ∧ Hid (Hld w [] (star (feR fb f3) emp) w6) := ⟨f, ⟨hF.out, rfl⟩, H6⟩
          clear hins hff H2
          go_wp2_with fail
        all_goals
          refine (fparse_c w [] w6 I1 _ H6.out (by omega)).mono ?_
          intro e w7 hp
          rcases hp with ⟨hp, _⟩ | ⟨gb, g, hp, hg, rfl, H7⟩
          · rw [hpar.out] at hp; cases hp
          · have hlv : g.lv = f.lv := by
              rw [hpar.out] at hp
              exact (Option.some.inj hp).symm
            have hgf := hid (Fok.mk hg (by rw [hlv]; exact hF.out.ok))
            have hlv := hid hlv
            have H7 := hid H7
            clear hp hg H6
            go_wp2_with fail
            refine (img_h H7.out.swap hF3.out.1).mono ?_
            rintro e w8 ⟨rfl, H8⟩
            rw [hF3.out.2, ← HI1.out]
            have H8 := hid H8.swap
            clear H7
            go_wp2_with fail
            refine (img_h H8.out hgf.out).mono ?_
            rintro e w9 ⟨rfl, H9⟩
            rw [hlv.out, ← HI1.out]
            have H9 := hid H9
            clear H8
            go_wp2_with fail
            refine (seps_h H9.out hgf.out).mono ?_
            rintro e w10 ⟨v1, rfl, Ha⟩
            have Ha := hid (Ha.ent (ent_pull3 _ _ _ _))
            clear H9
            go_wp2_with fail
            refine (seps_h Ha.out hF3.out.1).mono ?_
            rintro e w11 ⟨v2, rfl, Hb⟩
            have Hb := hid Hb
            clear Ha
            have hl60 : (sepsL f.lv).length ≤ 1000 := by have := hF.out.ok.len; simp; omega
            have hss := hid (texts_c w11 v1 v2 _ _ (seg_lx Hb.out.drop.drop (by rw [hlv.out]; exact hl60)) (seg_lx Hb.out (by rw [hF3.out.2]; exact hl60)))
            rw [hlv.out, hF3.out.2, decide_eq_true rfl] at hss
            clear hl60
            go_wp2_with fail
            refine hss.out.mono ?_
            rintro e w12 ⟨rfl, hm⟩
            have Hc := hid ((Hb.out.drop.mod hm).ent (ent_pull3 _ _ _ _))
            clear Hb hss hm
            go_wp2_with fail
            refine (pids_h Hc.out hgf.out).mono ?_
            rintro e w13 ⟨v3, rfl, Hd⟩
            have Hd := hid (Hd.ent (ent_pull3 _ _ _ _))
            clear Hc
            go_wp2_with fail
            refine (pids_h Hd.out hF3.out.1).mono ?_
            rintro e w14 ⟨v4, rfl, He⟩
            have He := hid He
            clear Hd
            have hpp := hid (lpids_c w14 v3 v4 _ _ (row_lx He.out.drop.drop) (row_lx He.out))
            rw [hlv.out, hF3.out.2, decide_eq_true rfl] at hpp
            go_wp2_with fail
            refine hpp.out.mono ?_
            rintro e w15 ⟨rfl, hm⟩
            have hm := hid (He.out.m.tr hm)
            clear He hpp
            go_wp2_with fail
            refine (works_c w15).mono ?_
            rintro e w16 ⟨rfl, hm2⟩
            go_wp2
            go_ret
            exact ⟨rfl, hm.out.tr hm2⟩

theorem undone_said {H : Type} {enc : TypeId × Value → H} {base : Nat} {spare : Nat → Bool} {held : Bool} {d : DataW H} {p : List MemPlace} (a : Option Addr) (len cap : Nat) (s : ByteArray) (pid : Int) (w : World)
    (h : DataW.Trod enc Try.prog w base spare held 48 (.slice a len cap) d p) (hs : s.size ≤ maxLen) (hp : (Lit.int .u8 pid).wf = true) :
    Calls Try.prog 5 #[.slice a len cap, .string s, .int .u8 pid] w fun e w' => e = .returned (.bool true) ∧ Mod [] w w' := by
  obtain ⟨xs, hl, rfl, hx⟩ := open_u8s h
  obtain ⟨k, rfl, hk8⟩ := u8_bnd hp
  exact undone_walk a cap xs s k w hl hx (by simpa [maxLen] using hs) hk8
end Go.Proofs.Ythofkkmnngmafaa
