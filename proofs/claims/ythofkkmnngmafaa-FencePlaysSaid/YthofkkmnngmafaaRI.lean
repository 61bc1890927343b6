/- FencePlays: the walk. -/
import Derived.Test.YthofkkmnngmafaaRH
namespace Go.Proofs.Ythofkkmnngmafaa
set_option linter.unusedVariables false
set_option linter.unusedSimpArgs false
set_option linter.unusedSectionVars false
open Go.RowKit

theorem Lx.actp {w : World} {a : Option Addr} {n cap : Nat} {l : List Ac} (h : Lx 3 acC w (.slice a n cap) l) {i : Nat} {x : Ac} (hx : l[i]? = some x) :
    ∃ b off : Nat, a = some ⟨b, off, Option.none⟩ ∧ w.cell? ⟨b, off + i * 3, Option.none⟩ = some (.int .i64 x.what) ∧ w.cell? ⟨b, off + i * 3 + 1, Option.none⟩ = some (.string x.key) ∧ w.cell? ⟨b, off + i * 3 + 2, Option.none⟩ = some (.int .u8 (x.pid : Nat)) := by
  obtain ⟨b, off, e, hc⟩ := h.at hx
  exact ⟨b, off, e, hc 0 _ rfl, hc 1 _ rfl, hc 2 _ rfl⟩
/-- Two pairs change places. -/
theorem ent_to4 (A B C D U : Res) : Ent (star A (star B (star C (star D U)))) (star C (star D (star A (star B U)))) :=
  (ent_pull3 A B C (star D U)).trans ((ent_pull3 A B D U).under C)
/-- A fence and the document's, alike. -/
def Two (w : World) (fb rb : Nat) (V : Res) (W : World) : Prop := ∃ f l, Fok f ∧ f.lv = l ∧ Hld w [] (star (feR fb f) (star (rfR rb l) V)) W
/-- None, or two others beside. -/
def PS (w : World) (fb rb : Nat) (p q : Value) (W : World) : Prop :=
  (p = .pointer none ∧ q = .pointer none ∧ Two w fb rb emp W) ∨ ∃ gb sb g m, p = .pointer (some ⟨gb, 0, none⟩) ∧ q = .pointer (some ⟨sb, 0, none⟩) ∧ Fok g ∧ g.lv = m ∧ Two w fb rb (star (feR gb g) (star (rfR sb m) emp)) W
theorem Two.m {w W : World} {fb rb : Nat} {V : Res} (h : Two w fb rb V W) : Mod [] w W := by
  obtain ⟨f, l, _, _, h⟩ := h
  exact h.m
theorem PS.two {w W : World} {fb rb : Nat} {p q : Value} (h : PS w fb rb p q W) : Two w fb rb emp W := by
  rcases h with ⟨_, _, h⟩ | ⟨gb, sb, g, m, _, _, _, _, f, l, h1, h2, h3⟩
  · exact h
  · exact ⟨f, l, h1, h2, h3.ent ((((ent_drop _ _).trans (ent_drop _ _)).under _).under _)⟩
set_option maxRecDepth 100000 in
set_option maxHeartbeats 8000000 in
theorem plays_walk (pid : Nat) (a : Option Addr) (cap : Nat) (xs : List Ac) (w : World) (hp8 : pid < 256) (h : Lx 3 acC w (.slice a xs.length cap) xs) (hx : ∀ x ∈ xs, x.Ok) :
    Calls Try.prog 6 #[.int .u8 (pid : Nat), .slice a xs.length cap] w fun e w' => e = .returned (.bool true) ∧ Mod [] w w' := by
  have hlen := h.len.2
  have HL := hid h
  have HX := hid hx
  have H0 := hid (show Hld w [] emp w from Hld.start rfl)
  have hu : IntKind.u64.wrap (pid : Int) = (pid : Int) := by rw [IntKind.wrap_u64]; omega
  clear h hx
  go_enter Try.func6, Try.ntmps6
  by_cases hp0 : pid = 0
  · subst hp0
    go_wp2_with fail
    refine (fnew_nil w).mono ?_
    rintro e w1 ⟨rfl, rfl⟩
    go_wp2_with fail
    refine (rnew_nil w).mono ?_
    rintro e w1 ⟨rfl, rfl⟩
    go_wp2_with fail
    refine (works_c w).mono ?_
    rintro e w2 ⟨rfl, hm2⟩
    go_wp2
    go_ret
    exact ⟨rfl, hm2⟩
  · go_wp2_with fail
    refine (new_h H0.out pid hp0).mono ?_
    rintro e w1 ⟨rfl, H1⟩
    obtain ⟨fb, hfb⟩ : ∃ fb, fb = w.heap.size := ⟨_, rfl⟩
    rw [← hfb] at H1 ⊢
    have H1 := hid H1
    clear hfb
    go_wp2_with fail
    refine (rnew_c w [] w1 pid _ H1.out hp0).mono ?_
    rintro e w2 ⟨rb, rfl, H2⟩
    have HT : Hid (PS w fb rb (.pointer none) (.pointer none) w2) := Or.inl ⟨rfl, rfl, fe0 pid, [(mt, pid)], Fok.one hp0 (by omega), rfl, H2.swap⟩
    clear H2 H1 H0
    go_wp2
    go_loopg [7, 8, 9] 150 (fun g p q ic wr => ∃ i : Nat, ic = .int .i64 i ∧ i + g = 150 ∧ i ≤ xs.length ∧ Hid (PS w fb rb p q wr))
    · exact ⟨0, rfl, rfl, by omega, HT⟩
    · clear HT
      obtain ⟨i, rfl, hig, hix, hP⟩ := hrel
      by_cases hlt : i < xs.length ∧ i < 150
      · obtain ⟨hlt, hlt2⟩ := hlt
        have hi1 : (i : Int) < (xs.length : Int) := by omega
        have hi2 : (i : Int) < 150 := by omega
        have hi0 : (0 : Int) ≤ (i : Int) := by omega
        obtain ⟨x, hxx⟩ : ∃ x, xs[i]? = some x := ⟨_, List.getElem?_eq_getElem hlt⟩
        obtain ⟨m, hm⟩ : ∃ m, m = xs.length - 1 - i := ⟨_, rfl⟩
        obtain ⟨y, hyy⟩ : ∃ y, xs[m]? = some y := ⟨_, List.getElem?_eq_getElem (by omega)⟩
        have hxo := hid (HX.out x (List.mem_of_getElem? hxx))
        have hyo := hid (HX.out y (List.mem_of_getElem? hyy))
        obtain ⟨ba, oa, rfl, _⟩ := HL.out.actp hxx
        have hC : Hid (∀ X, Mod [] w X → (X.cell? ⟨ba, oa + i * 3, none⟩ = some (.int .i64 x.what) ∧ X.cell? ⟨ba, oa + i * 3 + 1, none⟩ = some (.string x.key) ∧ X.cell? ⟨ba, oa + i * 3 + 2, none⟩ = some (.int .u8 (x.pid : Nat))) ∧ X.cell? ⟨ba, oa + m * 3, none⟩ = some (.int .i64 y.what) ∧ X.cell? ⟨ba, oa + m * 3 + 1, none⟩ = some (.string y.key) ∧ X.cell? ⟨ba, oa + m * 3 + 2, none⟩ = some (.int .u8 (y.pid : Nat))) := by
          intro X hX
          obtain ⟨_, _, e, hc⟩ := (HL.out.mod hX).actp hxx
          cases e
          obtain ⟨_, _, e, hd⟩ := (HL.out.mod hX).actp hyy
          cases e
          exact ⟨hc, hd⟩
        have hmi : (xs.length : Int) - 1 - (i : Int) = (m : Int) := by omega
        have hm1 : (m : Int) < (xs.length : Int) := by omega
        have hm0 : (0 : Int) ≤ (m : Int) := by omega
        clear hxx hyy hm
        go_upto_if 45 with (fail)
        go_cut [7, 8] from 41 to 51 (fun p q wx => Hid (PS w fb rb p q wx))
        case first =>
          by_cases hh : (i : Int) = (xs.length : Int) / 2
          · have hh1 : ((i : Int) == (xs.length : Int) / 2) = true := by rw [← hh]; simp
            obtain ⟨f, l, hf, hl, hT⟩ := hP.out.two
            have HF := hid hf
            have HLL := hid hl
            have hok : OkL l := by rw [← hl]; exact hf.ok
            have HOK := hid hok
            have hT := hid hT
            clear hf hl hok hh
            go_wp2_with fail
            refine (fcopy_c w [] _ fb f _ hT.out HF.out.good HF.out.ok).mono ?_
            rintro e w3 ⟨gb, g, rfl, hg1, hg2, H3⟩
            have HG := hid (And.intro hg1 hg2)
            have H3 := hid (H3.ent (ent_pull3 _ _ _ _))
            clear hg1 hg2
            go_wp2_with fail
            refine (rcopy_c w [] w3 rb l _ H3.out HOK.out).mono ?_
            rintro e w4 ⟨sb, rfl, H4⟩
            have HE : Hid (PS w fb rb (.pointer (some ⟨gb, 0, none⟩)) (.pointer (some ⟨sb, 0, none⟩)) w4) := by
              refine Or.inr ⟨gb, sb, g, l, rfl, rfl, ⟨HG.out.2, by rw [HG.out.1]; exact HF.out.ok⟩, HG.out.1.trans HLL.out, f, l, HF.out, HLL.out, ?_⟩
              exact (H4.ent (ent_pull4 _ _ _ _ _)).ent (((ent_swap _ _ _).trans ((ent_swap _ _ _).under _)).under _)
            clear H4 H3
            go_wp2_with fail
            go_meet
            exact HE
          · have hh1 : ((i : Int) == (xs.length : Int) / 2) = false := beq_eq_false_iff_ne.2 hh
            clear hh
            go_wp2_with fail
            go_meet
            exact hP
        case rest =>
          clear hP
          rcases hcut.out with ⟨rfl, rfl, f, l, hf, hl, hT⟩ | ⟨gb, sb, g, n, rfl, rfl, hg, hn, f, l, hf, hl, hT⟩
          · have HF := hid hf
            have HLL := hid hl
            have HT := hid hT
            obtain ⟨⟨c0, c1, c2⟩, _⟩ := hC.out _ hT.m
            clear hf hl hT hcut
            go_wp2_with fail
            refine (do_c w [] wc fb rb f l x _ HT.out HF.out HLL.out hxo.out).mono ?_
            rintro e w3 ⟨f2, l2, rfl, hf2, hl2, H3⟩
            have HF2 := hid hf2
            have HL2 := hid hl2
            have H3 := hid H3
            clear hf2 hl2 HT c0 c1 c2
            go_wp2_with fail
            refine (same_c w [] w3 fb rb f2 l2 _ H3.out HF2.out HL2.out).mono ?_
            rintro e w4 ⟨rfl, H4⟩
            have HE : Hid (PS w fb rb (.pointer none) (.pointer none) w4) := Or.inl ⟨rfl, rfl, f2, l2, HF2.out, HL2.out, H4⟩
            clear H4 H3
            go_wp2
            go_roundg (gk - 1)
            case measure => omega
            case rel => exact ⟨i + 1, by go_num, by omega, by omega, HE⟩
          · have HF := hid hf
            have HLL := hid hl
            have HT := hid hT
            have HG := hid (And.intro hg hn)
            obtain ⟨⟨c0, c1, c2⟩, _⟩ := hC.out _ hT.m
            clear hf hl hT hg hn hcut
            go_wp2_with fail
            refine (do_c w [] wc fb rb f l x _ HT.out HF.out HLL.out hxo.out).mono ?_
            rintro e w3 ⟨f2, l2, rfl, hf2, hl2, H3⟩
            have HF2 := hid hf2
            have HL2 := hid hl2
            have H3 := hid H3
            clear hf2 hl2 HT c0 c1 c2
            go_wp2_with fail
            refine (same_c w [] w3 fb rb f2 l2 _ H3.out HF2.out HL2.out).mono ?_
            rintro e w4 ⟨rfl, H4⟩
            have H4 := hid H4
            obtain ⟨_, d0, d1, d2⟩ := hC.out _ H4.out.m
            clear H3
            by_cases hev : (i : Int) % 2 = 0
            · have hev1 : ((i : Int) % 2 == 0) = true := by rw [hev]; rfl
              have H5 := hid (H4.out.ent (ent_to4 _ _ _ _ _))
              clear hev
              go_wp2_with fail
              refine (do_c w [] w4 gb sb g n y _ H5.out HG.out.1 HG.out.2 hyo.out).mono ?_
              rintro e w5 ⟨g2, n2, rfl, hg2, hn2, H6⟩
              have HG2 := hid (And.intro hg2 hn2)
              have H6 := hid H6
              clear hg2 hn2 H5 H4 d0 d1 d2
              go_wp2_with fail
              refine (same_c w [] w5 gb sb g2 n2 _ H6.out HG2.out.1 HG2.out.2).mono ?_
              rintro e w6 ⟨rfl, H7⟩
              have HE : Hid (PS w fb rb (.pointer (some ⟨gb, 0, none⟩)) (.pointer (some ⟨sb, 0, none⟩)) w6) := Or.inr ⟨gb, sb, g2, n2, rfl, rfl, HG2.out.1, HG2.out.2, f2, l2, HF2.out, HL2.out, H7.ent (ent_to4 _ _ _ _ _)⟩
              clear H7 H6
              go_wp2
              go_roundg (gk - 1)
              case measure => omega
              case rel => exact ⟨i + 1, by go_num, by omega, by omega, HE⟩
            · have hev1 : ((i : Int) % 2 == 0) = false := beq_eq_false_iff_ne.2 hev
              have HE : Hid (PS w fb rb (.pointer (some ⟨gb, 0, none⟩)) (.pointer (some ⟨sb, 0, none⟩)) w4) := Or.inr ⟨gb, sb, g, n, rfl, rfl, HG.out.1, HG.out.2, f2, l2, HF2.out, HL2.out, H4.out⟩
              clear H4 d0 d1 d2 hev
              go_wp2
              go_roundg (gk - 1)
              case measure => omega
              case rel => exact ⟨i + 1, by go_num, by omega, by omega, HE⟩
      · have hor : ¬ (i : Int) < (xs.length : Int) ∨ ((i : Int) < (xs.length : Int) ∧ ¬ (i : Int) < 150) := by omega
        have hm := hid hP.out.two.m
        clear hlt hig hix hP
        rcases hor with hk1 | ⟨hk1, hk2⟩
        all_goals
          go_wp2_with fail
          refine (works_c wr).mono ?_
          rintro e w2 ⟨rfl, hm2⟩
          go_wp2
          go_ret
          exact ⟨rfl, hm.out.tr hm2⟩

theorem plays_said {H : Type} {enc : TypeId × Value → H} {base : Nat} {spare : Nat → Bool} {held : Bool} {d : DataW H} {p : List MemPlace} (pid : Int) (a : Option Addr) (len cap : Nat) (w : World)
    (hp : (Lit.int .u8 pid).wf = true) (h : DataW.Trod enc Try.prog w base spare held 22 (.slice a len cap) d p) :
    Calls Try.prog 6 #[.int .u8 pid, .slice a len cap] w fun e w' => e = .returned (.bool true) ∧ Mod [] w w' := by
  obtain ⟨xs, hl, rfl, hx⟩ := open_acts h
  obtain ⟨k, rfl, hk8⟩ := u8_bnd hp
  exact plays_walk k a cap xs w hk8 hl hx
end Go.Proofs.Ythofkkmnngmafaa
