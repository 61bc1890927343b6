/- A fence out of bytes: the walk of Parse; Copy. -/
import Derived.Test.YthofkkmnngmafaaFU
namespace Go.Proofs.Ythofkkmnngmafaa
set_option linter.unusedVariables false
set_option linter.unusedSimpArgs false
set_option linter.unusedSectionVars false
open Go.RowKit

def rdR (b : Nat) (st : Option ByteArray) : Res := fun w L => Rd 100 w b st ∧ L = [b]
instance (b : Nat) (st : Option ByteArray) : Keep (rdR b st) where
  lt := by rintro w L ⟨h, rfl⟩ k hk; simp at hk; subst hk; exact h.1.lt
  mod := by rintro w w' L M ⟨h, rfl⟩ hm hd; exact ⟨h.mod hm (hd _ (by simp)), rfl⟩
/-- A call that makes a thing. -/
theorem Hld.new {w0 w w' : World} {L0 : List Nat} {R : Res} [Keep R] {R' : Value → Res} {e : Ending} (h : Hld w0 L0 R w) (hg : Gives w [] R' e w') : ∃ r, e = .returned r ∧ Hld w0 L0 (star (R' r) R) w' := by
  obtain ⟨r, rfl, L, h1, h2, h3⟩ := hg
  exact ⟨r, rfl, h.made h1 h2 fun k hk => (h3 k hk).resolve_left (by simp)⟩
section
variable {w0 w : World} {L0 : List Nat} {b : Nat} {st : Option ByteArray} {U : Res} [Keep U]
theorem num_h (h : Hld w0 L0 (star (rdR b st) U) w) : Calls Try.prog 37 #[.pointer (some ⟨b, 0, none⟩)] w fun e w' => e = .returned (.int .u64 (numOf st).1) ∧ Hld w0 L0 (star (rdR b (numOf st).2) U) w' := by
  obtain ⟨L, ⟨h1, rfl⟩, h2⟩ := h.first
  exact (num_c _ b st w h1).mono fun e w' g => ⟨g.1, h2 _ _ [b] ⟨g.2.1, rfl⟩ g.2.2 (by simp)⟩
theorem text_h (h : Hld w0 L0 (star (rdR b st) U) w) : Calls Try.prog 38 #[.pointer (some ⟨b, 0, none⟩)] w fun e w' => e = .returned (.string (textOf st).1) ∧ Hld w0 L0 (star (rdR b (textOf st).2) U) w' := by
  obtain ⟨L, ⟨h1, rfl⟩, h2⟩ := h.first
  exact (text_c _ b st w h1).mono fun e w' g => ⟨g.1, h2 _ _ [b] ⟨g.2.1, rfl⟩ g.2.2 (by simp)⟩
theorem ok_h (h : Hld w0 L0 (star (rdR b st) U) w) : Calls Try.prog 39 #[.pointer (some ⟨b, 0, none⟩)] w fun e w' => e = .returned (.bool st.isSome) ∧ w = w' := by
  obtain ⟨L, h1, _⟩ := h.res
  exact ok_c _ b st w h1
theorem end_h (h : Hld w0 L0 (star (rdR b st) U) w) : Calls Try.prog 40 #[.pointer (some ⟨b, 0, none⟩)] w fun e w' => e = .returned (.bool (atEnd st)) ∧ w = w' := by
  obtain ⟨L, h1, _⟩ := h.res
  exact end_c _ b st w h1
theorem newr_h (h : Hld w0 L0 U w) (s : ByteArray) (hs : s.size ≤ 9223372036854775807) : Calls Try.prog 36 #[.string s] w fun e w' => e = .returned (.pointer (some ⟨w.heap.size, 0, none⟩)) ∧ Hld w0 L0 (star (rdR w.heap.size (some s)) U) w' :=
  (new_c s w hs).mono fun e w' g => ⟨g.1, h.made (L := [w.heap.size]) ⟨g.2.1, rfl⟩ g.2.2.1 (by simp)⟩
end
theorem text_le (st : Option ByteArray) : (textOf st).1.size ≤ (rdL st).size := by
  cases st with
  | none => show (0 : Nat) ≤ _; omega
  | some s =>
    rcases h : textOf (some s) with ⟨t, o⟩
    cases o with
    | none =>
      have : t = ⟨#[]⟩ := by
        unfold textOf at h
        split at h
        · split at h
          · cases h
          · cases h; rfl
        · cases h; rfl
      subst this
      show (0 : Nat) ≤ _; omega
    | some r =>
      obtain ⟨h1, _⟩ := text_was h
      show t.size ≤ s.size
      rw [h1, ByteArray.size_append]
      unfold textB
      rw [ByteArray.size_append]
      omega

/-- What Parse gives back. -/
def ParseG (s : ByteArray) (w0 : World) (L0 : List Nat) (U : Res) (e : Ending) (w' : World) : Prop :=
  (parseL s = none ∧ e = .returned (.tuple #[.pointer none, .int .i64 4]) ∧ Hld w0 L0 U w') ∨
  ∃ fb f, parseL s = some f.lv ∧ Good f ∧ e = .returned (.tuple #[.pointer (some ⟨fb, 0, none⟩), .int .i64 0]) ∧ Hld w0 L0 (star (feR fb f) U) w'

set_option maxRecDepth 100000 in
set_option maxHeartbeats 2000000 in
theorem fparse_c (w0 : World) (L0 : List Nat) (w : World) (s : ByteArray) (U : Res) [Keep U] (h : Hld w0 L0 U w) (hs : s.size ≤ 9223372036854775807) :
    Calls Try.prog 18 #[.string s] w (ParseG s w0 L0 U) := by
  have H := hid h
  clear h
  go_enter Try.func18, Try.ntmps18
  go_wp2_with fail
  refine (newr_h H.out s hs).mono ?_
  rintro e w1 ⟨rfl, H1⟩
  obtain ⟨rb, hrb⟩ : ∃ rb, rb = w.heap.size := ⟨_, rfl⟩
  rw [← hrb] at H1 ⊢
  have H1 := hid H1
  clear H hrb
  go_wp2_with fail
  refine (num_h H1.out).mono ?_
  rintro e w2 ⟨rfl, H2⟩
  obtain ⟨n, hn⟩ : ∃ n, n = (numOf (some s)).1 := ⟨_, rfl⟩
  obtain ⟨st1, hst1⟩ : ∃ st1, st1 = (numOf (some s)).2 := ⟨_, rfl⟩
  have hnl : n < 18446744073709551616 := by rw [hn]; exact num_lt _
  rw [← hn]
  rw [← hst1] at H2
  have H2 := hid H2
  have Hn := hid (And.intro hn hst1)
  clear H1 hn hst1
  go_wp2_with fail
  refine (num_h H2.out).mono ?_
  rintro e w3 ⟨rfl, H3⟩
  obtain ⟨p, hp⟩ : ∃ p, p = (numOf st1).1 := ⟨_, rfl⟩
  obtain ⟨st2, hst2⟩ : ∃ st2, st2 = (numOf st1).2 := ⟨_, rfl⟩
  have hpl : p < 18446744073709551616 := by rw [hp]; exact num_lt _
  rw [← hp]
  rw [← hst2] at H3
  have H3 := hid H3
  have Hp : Hid (parseL s = if p = 0 ∨ n < 1 ∨ 60 < n then none else match rdAll (n - 1) st2 [(mt, p)] mt with
    | none => none
    | some (l, st) => if atEnd st = true then some l else none) := by
    show _ = _
    rw [hp, hst2, Hn.out.1, Hn.out.2]
    rfl
  clear H2 hp hst2 Hn
  by_cases hp0 : p = 0
  · subst hp0
    have Hno : Hid (parseL s = none) := by
      show _ = _
      rw [Hp.out, if_pos (Or.inl rfl)]
    go_wp2_with fail
    refine (fnew_nil w3).mono ?_
    rintro e w4 ⟨rfl, rfl⟩
    go_wp2
    go_ret2
    exact Or.inl ⟨Hno.out, rfl, H3.out.drop⟩
  · go_wp2_with fail
    refine (fnew_c w3 p hp0).mono ?_
    intro e w4 hg
    obtain ⟨r, rfl, H4⟩ := H3.out.new hg
    obtain ⟨hr, H5⟩ := H4.fact
    subst hr
    obtain ⟨fb, hfb⟩ : ∃ fb, fb = w3.heap.size := ⟨_, rfl⟩
    rw [← hfb] at H5 ⊢
    have H5 := hid H5
    clear hg H4 H3 hfb
    by_cases hn1 : n < 1
    · have Hno : Hid (parseL s = none) := by
        show _ = _
        rw [Hp.out, if_pos (Or.inr (Or.inl hn1))]
      have hn0 : (n : Int) < 1 := by omega
      go_wp2
      go_ret2
      exact Or.inl ⟨Hno.out, rfl, H5.out.drop.drop⟩
    · by_cases hn6 : 60 < n
      · have Hno : Hid (parseL s = none) := by
          show _ = _
          rw [Hp.out, if_pos (Or.inr (Or.inr hn6))]
        have hn0 : ¬ (n : Int) < 1 := by omega
        have hn60 : 60 < (n : Int) := by omega
        go_wp2
        go_ret2
        exact Or.inl ⟨Hno.out, rfl, H5.out.drop.drop⟩
      · have hn0 : ¬ (n : Int) < 1 := by omega
        have hn60 : ¬ 60 < (n : Int) := by omega
        rw [if_neg (by omega)] at Hp
        go_wp2
        have hok0 := OkL.one hp0 hpl
        have hg0 : Good (fe0 p) := ⟨trivial, by show SrtL [(mt, p)]; simp⟩
        go_loopg [7, 29] (n - 1) (fun g la ic wr => ∃ (i : Nat) (last : ByteArray) (f : Fc) (st : Option ByteArray), la = .string last ∧ ic = .int .u64 i ∧ i + g = n - 1 ∧
          Hid (rdAll (n - 1) st2 [(mt, p)] mt = rdAll g st f.lv last) ∧ Hid (Good f ∧ OkL f.lv ∧ f.lv.length = i + 1) ∧ Hid (Hld w0 L0 (star (feR fb f) (star (rdR rb st) U)) wr))
        · exact ⟨0, mt, fe0 p, st2, rfl, rfl, by omega, rfl, ⟨hg0, hok0, rfl⟩, H5.out⟩
        · obtain ⟨i, last, f, st, rfl, rfl, hi, hrd, hF, hH⟩ := hrel
          clear H5 hok0 hg0
          by_cases hlt : i < n - 1
          · have hlt1 : (i : Int) < (n : Int) - 1 := by omega
            obtain ⟨k, rfl⟩ : ∃ k, gk = k + 1 := ⟨gk - 1, by omega⟩
            have hstep : rdAll (k + 1) st f.lv last = if (numOf (textOf st).2).2.isSome = true ∧ SL last (textOf st).1 ∧ insAnsL f.lv (textOf st).1 (numOf (textOf st).2).1 = 0 then rdAll k (numOf (textOf st).2).2 (putL f.lv (textOf st).1 (numOf (textOf st).2).1) (textOf st).1 else none := rfl
            obtain ⟨sep, hsep⟩ : ∃ sep, sep = (textOf st).1 := ⟨_, rfl⟩
            obtain ⟨sta, hsta⟩ : ∃ sta, sta = (textOf st).2 := ⟨_, rfl⟩
            obtain ⟨pid, hpid⟩ : ∃ pid, pid = (numOf sta).1 := ⟨_, rfl⟩
            obtain ⟨stb, hstb⟩ : ∃ stb, stb = (numOf sta).2 := ⟨_, rfl⟩
            rw [← hsep, ← hsta, ← hpid, ← hstb] at hstep
            have hrd := hrd.out.trans hstep
            have hpl2 : pid < 18446744073709551616 := by rw [hpid]; exact num_lt _
            have hssz : sep.size ≤ 9223372036854775807 := by
              obtain ⟨L, hL⟩ := hH.out.swap.res
              have := text_le st
              rw [← hsep] at this
              exact Nat.le_trans this hL.1.2
            have hrd := hid hrd
            have Hst := hid (⟨hsep, hsta, hpid, hstb⟩ : _ ∧ _ ∧ _ ∧ _)
            clear hstep hsep hsta hpid hstb
            go_wp2_with fail
            refine (text_h hH.out.swap).mono ?_
            rintro e v1 ⟨rfl, G1⟩
            rw [← Hst.out.1]
            rw [← Hst.out.2.1] at G1
            have G1 := hid G1
            go_wp2_with fail
            refine (num_h G1.out).mono ?_
            rintro e v2 ⟨rfl, G2⟩
            rw [← Hst.out.2.2.1]
            rw [← Hst.out.2.2.2] at G2
            have hok := hid (ok_h G2)
            have G2 := hid G2
            clear G1 hH Hst
            cases stb with
            | none =>
              have Hno : Hid (parseL s = none) := by
                show _ = _
                rw [Hp.out, hrd.out, if_neg (by simp)]
              go_wp2_with fail
              refine hok.out.mono ?_
              rintro e v3 ⟨rfl, rfl⟩
              go_wp2
              go_ret2
              exact Or.inl ⟨Hno.out, rfl, G2.out.drop.drop⟩
            | some sb =>
              by_cases hls : SL last sep
              · have hne : sep ≠ last := fun e => by rw [e] at hls; exact SL_irrefl _ hls
                have hb1 : (sep.toList == last.toList) = false := eqS_no hne
                have hb3 : ¬ sep.toList = last.toList := by simpa using hb1
                have hb2 : Op.bytesLess sep.toList last.toList = false := blS_no (SL_asymm hls)
                have hins := hid (finsert_c w0 L0 v2 fb f sep pid (star (rdR rb (some sb)) U) G2.out.swap hF.out.1 hF.out.2.1.len hssz)
                have Hls := hid hls
                clear hls hne
                go_wp2_with fail
                refine hok.out.mono ?_
                rintro e v3 ⟨rfl, rfl⟩
                go_wp2_with fail
                refine hins.out.mono ?_
                rintro e v4 ⟨rfl, G3⟩
                have G3 := hid G3
                clear hins
                by_cases ha : insAnsL f.lv sep pid = 0
                · have Hff : Hid (insFF f sep pid = insF f sep pid) := by show _ = _; unfold insFF; rw [if_pos ha]
                  have hnew := hF.out.2.1.new (insAnsL_zero.1 ha).1 (insAnsL_zero.1 ha).2.2.1
                  have hio := hid (insF_ok hF.out.1 pid (insAnsL_zero.1 ha).1 hnew)
                  have hrd2 : Hid (rdAll (n - 1) st2 [(mt, p)] mt = rdAll k (some sb) (putL f.lv sep pid) sep) := by
                    show _ = _
                    rw [hrd.out, if_pos ⟨rfl, Hls.out, ha⟩]
                  have hok2 := hid (hF.out.2.1.put hpl2 ha)
                  have hlen : Hid ((putL f.lv sep pid).length = i + 1 + 1) := by
                    show _ = _
                    rw [(putL_perm hnew).length_eq, List.length_cons, hF.out.2.2]
                  rw [ha]
                  clear hnew ha hrd
                  go_wp2
                  go_roundg k
                  case measure => omega
                  case rel =>
                    refine ⟨i + 1, sep, insF f sep pid, some sb, rfl, by go_num, by omega, ?_, ⟨hio.out.2.1, by rw [hio.out.1]; exact hok2.out, by rw [hio.out.1]; exact hlen.out⟩, ?_⟩
                    · show _ = _
                      rw [hrd2.out, hio.out.1]
                    · have h := G3.out
                      rw [Hff.out] at h
                      exact h
                · have Hno : Hid (parseL s = none) := by
                    show _ = _
                    rw [Hp.out, hrd.out, if_neg (fun h => ha h.2.2)]
                  have ha1 : ((insAnsL f.lv sep pid : Nat) : Int) ≠ 0 := by omega
                  have ha2 : (((insAnsL f.lv sep pid : Nat) : Int) == 0) = false := beq_eq_false_iff_ne.2 ha1
                  clear ha
                  go_wp2
                  go_ret2
                  exact Or.inl ⟨Hno.out, rfl, G3.out.drop.drop⟩
              · have Hno : Hid (parseL s = none) := by
                  show _ = _
                  rw [Hp.out, hrd.out, if_neg (fun h => hls h.2.1)]
                rcases SL_tri sep last with h | h | h
                · have hb2 : Op.bytesLess sep.toList last.toList = true := blS_yes h
                  clear hls h
                  go_wp2_with fail
                  refine hok.out.mono ?_
                  rintro e v3 ⟨rfl, rfl⟩
                  go_wp2_with fail
                  go_ret2
                  exact Or.inl ⟨Hno.out, rfl, G2.out.drop.drop⟩
                · subst h
                  have hb2 : Op.bytesLess sep.toList sep.toList = false := blS_no (SL_irrefl _)
                  clear hls
                  go_wp2_with fail
                  refine hok.out.mono ?_
                  rintro e v3 ⟨rfl, rfl⟩
                  go_wp2_with fail
                  go_ret2
                  exact Or.inl ⟨Hno.out, rfl, G2.out.drop.drop⟩
                · exact absurd h hls
          · have hlt1 : ¬ (i : Int) < (n : Int) - 1 := by omega
            have hend := hid (end_h hH.out.swap)
            have hg : gk = 0 := by omega
            subst hg
            have hrd2 : Hid (parseL s = if atEnd st = true then some f.lv else none) := by
              show _ = _
              rw [Hp.out, hrd.out]
              rfl
            have hz : i = n - 1 := by omega
            subst hz
            clear hrd hlt
            go_wp2_with fail
            refine hend.out.mono ?_
            rintro e v1 ⟨rfl, rfl⟩
            cases hae : atEnd st with
            | true =>
              have Hs : Hid (parseL s = some f.lv) := by show _ = _; rw [hrd2.out, hae]; rfl
              clear hae hrd2
              go_wp2
              go_ret2
              exact Or.inr ⟨fb, f, Hs.out, hF.out.1, rfl, hH.out.swap.drop.ent (ent_refl _)⟩
            | false =>
              have Hs : Hid (parseL s = none) := by show _ = _; rw [hrd2.out, hae]; rfl
              clear hae hrd2
              go_wp2
              go_ret2
              exact Or.inl ⟨Hs.out, rfl, hH.out.drop.drop⟩

theorem imgB_size {l : List Lf} (h : OkL l) : (imgB l).size ≤ 10000 := by
  have := imgA_size (n := l.length) (by have := h.len; omega) h.small
  have := h.len
  show (imgA l.length l).size ≤ _
  omega
set_option maxRecDepth 100000 in
theorem fcopy_c (w0 : World) (L0 : List Nat) (w : World) (fb : Nat) (f : Fc) (U : Res) [Keep U] (h : Hld w0 L0 (star (feR fb f) U) w) (hg : Good f) (hok : OkL f.lv) :
    Calls Try.prog 25 #[.pointer (some ⟨fb, 0, none⟩)] w fun e w' => ∃ gb g, e = .returned (.pointer (some ⟨gb, 0, none⟩)) ∧ g.lv = f.lv ∧ Good g ∧ Hld w0 L0 (star (feR gb g) (star (feR fb f) U)) w' := by
  have hz := imgB_size hok
  have hb := hid (parse_img hok)
  have him := hid (fimage_c w0 L0 w fb f U h hg hok)
  clear h hg hok
  go_enter Try.func25, Try.ntmps25
  go_wp2_with fail
  refine him.out.mono ?_
  rintro e w1 ⟨rfl, H1⟩
  have H1 := hid H1
  go_wp2_with fail
  refine (fparse_c w0 L0 w1 (imgB f.lv) (star (feR fb f) U) H1.out (by omega)).mono ?_
  intro e w2 hp
  rcases hp with ⟨hp, _⟩ | ⟨gb, g, hp, hg, rfl, H2⟩
  · rw [hb.out] at hp; cases hp
  · have hlv : Hid (g.lv = f.lv) := by
      show _ = _
      have h := hb.out
      rw [hp] at h
      exact Option.some.inj h
    have H2 := hid (And.intro hg H2)
    clear hp hg
    go_wp2
    go_ret
    exact ⟨gb, g, rfl, hlv.out, H2.out.1, H2.out.2⟩
end Go.Proofs.Ythofkkmnngmafaa
