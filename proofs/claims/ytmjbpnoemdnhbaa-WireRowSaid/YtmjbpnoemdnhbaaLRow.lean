/- The law WireRow, walked. -/
import Derived.Test.YtmjbpnoemdnhbaaRT
namespace Go.Proofs.Ytmjbpnoemdnhbaa
set_option linter.unusedVariables false
set_option linter.unusedSimpArgs false
open Go.RowKit

theorem elem_int : (Try.prog.info? 3).map (fun i => (i.zero, i.size, i.bytes)) = some (some (.int .i64 0), 1, 8) := by kernel_rfl

theorem Top.open {w0 w : World} {R U : Res} [Keep U] (h : Top w0 (star R U) w) : ∃ L, R w L ∧ ∀ (w' : World) (R' : Res) (L' : List Nat), R' w' L' → Mod L w w' → (∀ k ∈ L', k ∈ L ∨ w.heap.size ≤ k) → Top w0 (star R' U) w' := by
  obtain ⟨L, ⟨L1, L2, h1, h2, rfl, hd⟩, hm, hf⟩ := h
  exact ⟨L1, h1, fun w' R' L' k1 k2 k3 => (Top.says h1 h2 hd hm hf ⟨rfl, L', k1, k2, k3⟩ (r := .bool true) (e := .returned (.bool true))).2⟩

theorem take_at {xs : List Item} {k : Nat} {x : Item} (h : (xs.take 30)[k]? = some x) : xs[k]? = some x := by
  rw [List.getElem?_take] at h
  split at h
  · exact h
  · cases h

theorem items_take {w : World} {a : Option Addr} {xs : List Item} (h : IsItems w a xs) : IsItems w a (xs.take 30) := by
  rcases h with rfl | ⟨b, off, rfl, h⟩
  · exact Or.inl (by simp)
  · exact Or.inr ⟨b, off, rfl, fun i x hx => h i x (take_at hx)⟩

theorem atEnd_some (r : ByteArray) : atEnd (some r) = decide (r.data.toList.length = 0) := by
  have e : rdL (some r) = r := rfl
  unfold atEnd
  rw [e, ByteArray.toList_eq]
  cases r.data.toList <;> rfl

set_option maxRecDepth 100000 in
set_option maxHeartbeats 4000000 in
theorem row_walk (a : Option Addr) (len cap c : Nat) (xs : List Item) (w : World) (hc : c < 65536) (hl : xs.length = len) (hi : IsItems w a xs) (hlen : len ≤ 9223372036854775807) (hsh : (a = none ∧ len = 0 ∧ cap = 0) ∨ (∃ ad, a = some ad ∧ len ≤ cap ∧ cap ≤ 9223372036854775807)) :
    Calls Try.prog 6 #[.slice a len cap, .int .u16 c] w fun e w' => e = .returned (.bool true) ∧ Mod [] w w' := by
  have Hi := hid (items_take hi)
  have hXl : (xs.take 30).length = min 30 len := by rw [List.length_take, hl]
  generalize xs.take 30 = X at *
  have hX30 : X.length ≤ 30 := by omega
  have Hsh := hid hsh
  have HXl := hid hXl
  clear hi hl hsh hXl
  go_enter Try.func6, Try.ntmps6
  go_upto_region 1 with (fail)
  go_cut [0] from 13 to 17 (fun v wx => ∃ cp : Nat, v = .slice a X.length cp ∧ Hid (Mod [] w wx))
  case first =>
    rcases Hsh.out with ⟨rfl, rfl, rfl⟩ | ⟨ad, rfl, hlc, hcm⟩
    · go_wp2
      go_meet
      exact ⟨0, by rw [HXl.out]; rfl, Mod.refl _ _⟩
    · rcases Nat.lt_or_ge 30 len with h30 | h30
      · have h31 : (30 : Int) ≤ (cap : Int) := by omega
        go_wp2
        go_meet
        exact ⟨cap, by rw [show X.length = 30 by rw [HXl.out]; omega], Mod.refl _ _⟩
      · have h31 : (len : Int) ≤ (cap : Int) := by omega
        go_wp2
        go_meet
        exact ⟨cap, by rw [show X.length = len by rw [HXl.out]; omega], Mod.refl _ _⟩
  case rest =>
    obtain ⟨cp, rfl, hm0⟩ := hcut
    have T0 : Hid (Top w emp wc) := ⟨[], rfl, hm0.out, by simp⟩
    clear hm0 Hsh HXl
    go_wp2
    go_loopg [5, 6, 7] 31 (fun g s v i wr => ∃ (k : Nat) (sb : ByteArray), s = .string sb ∧ i = .int .i64 k ∧ k ≤ X.length ∧ k + g = 31 ∧ Hid (sb.data.toList = rowL (X.take k)) ∧ Hid (Top w (star (rowR 3 1 v k (endsV X k)) emp) wr))
    · exact ⟨0, _, rfl, rfl, by omega, by omega, rfl, Top.made T0.out (L := []) (Own.nil _ _ _) (Mod.refl _ _) (by simp)⟩
    · obtain ⟨k, sb, rfl, rfl, hkX, hk, hsb, hT⟩ := hrel
      clear T0
      by_cases hlt : k < X.length
      · obtain ⟨x, hx⟩ : ∃ x, X[k]? = some x := ⟨_, List.getElem?_eq_getElem hlt⟩
        obtain ⟨b, off, rfl, c0, c1, c2⟩ := items_at Hi.out hT.out.m hx
        have hE := eN_step hx
        have hsz : sb.size = eN X k := by rw [ba_size, hsb.out]; rfl
        have hel := eN_le X k
        have hsb' : Hid ((sb ++ itemB x).data.toList = rowL (X.take (k + 1))) := by
          show _ = _
          rw [ba_list, hsb.out, rowL_take hx]; rfl
        have hsz' : Hid ((sb ++ itemB x).size = eN X (k + 1)) := by show _ = _; rw [ba_size, hsb'.out]; rfl
        have hel' := eN_le X (k + 1)
        have hput : Hid (∀ W, Calls Try.prog 10 #[.agg #[.bool x.isT, .string x.s, .int .u64 x.n], .string sb] W fun e w' => e = .returned (.string (sb ++ itemB x)) ∧ Mod [] W w') := fun W => put_i x sb W (by omega)
        clear hE hsz hx
        go_wp2_with fail
        refine (hT.out.read (hput.out _)).mono ?_
        rintro e w3 ⟨rfl, h⟩
        clear hput
        generalize sb ++ itemB x = sn at *
        have h5 := hid (h.alloc (.cells #[.int .i64 sn.size] 3))
        clear h
        obtain ⟨L, hown, hop⟩ := h5.out.open
        have hown' := hid hown
        have hop' := hid hop
        clear hown hop
        have hxr : Hid (Rdl (w3.alloc (.cells #[.int .i64 sn.size] 3)) 1 (.slice (some ⟨w3.heap.size, 0, none⟩) 1 1) 1 [.int .i64 sn.size]) := by
          refine ⟨rfl, Or.inr ⟨_, 0, 1, rfl, fun j hj => ?_⟩⟩
          rw [(Blk.new w3 _ _).cell]
          simp
        have hx1 : ∀ u ∈ [Value.int .i64 sn.size], u.oneCell' = true := by intro u hu; simp at hu; subst hu; rfl
        go_wp2_with (at_builtin; refine wpList_append_rdl rfl (.tmp 30) (.tmp 33) 42 3 rfl Try.underlying42 elem_int rfl (by decide) rfl hown'.out rfl hxr.out hx1 (by omega) (by omega) ?_; intro v' w5 L' g1 g2 g3)
        go_roundg (gk - 1)
        case measure => omega
        case rel => exact ⟨k + 1, sn, rfl, by go_num, by omega, by omega, hsb', by
          show Top _ _ _
          rw [endsV_step, ← hsz'.out]
          exact hop'.out _ _ _ g1.out g2.out g3.out⟩
      · obtain rfl : k = X.length := by omega
        have hsb2 : Hid (sb.data.toList = rowL X) := by
          have h := hsb.out
          rw [List.take_length] at h
          exact h
        have hsz : Hid (sb.size = eN X X.length) := by
          show _ = _
          rw [ba_size, hsb2.out]; unfold eN; rw [List.take_length]
        have hel := eN_le X X.length
        have hsl : sb.size ≤ 6300 := by rw [hsz.out]; omega
        clear hsb hel
        go_wp2_with fail
        refine (newr_t hT.out sb (by omega)).mono ?_
        rintro e w3 ⟨rfl, h⟩
        have hR := hid h
        clear h hT
        generalize wr.heap.size = r at *
        go_wp2
        go_loopg [9] 31 (fun g i wr => ∃ (k : Nat) (rb : ByteArray), i = .int .i64 k ∧ k ≤ X.length ∧ k + g = 31 ∧ Hid (rb.data.toList = rowL (X.drop k)) ∧ Hid (Top w (star (rdR r (some rb)) (star (rowR 3 1 u6 X.length (endsV X X.length)) emp)) wr))
        · exact ⟨0, sb, rfl, by omega, by omega, hsb2, hR⟩
        · obtain ⟨k, rb, rfl, hkX, hk, hrb, hT⟩ := hrel
          clear hR
          by_cases hlt : k < X.length
          · obtain ⟨x, hx⟩ : ∃ x, X[k]? = some x := ⟨_, List.getElem?_eq_getElem hlt⟩
            obtain ⟨b, off, rfl, c0, c1, c2⟩ := items_at Hi.out hT.out.m hx
            have hrb1 : rb.data.toList = itL x ++ rowL (X.drop (k + 1)) := by rw [hrb.out, rowL_drop hx]
            have hpos := itL_pos x
            have e1 : atEnd (some rb) = false := by
              rw [atEnd_some, hrb1]; simp; intro h; rw [h] at hpos; simp at hpos
            have e2 := ask_step hrb1
            have E1 := hid e1
            have E2 := hid e2
            clear hrb1 e1 e2 hx hpos
            go_wp2_with fail
            refine (end_t hT.out).mono ?_
            rintro e w4 ⟨rfl, rfl⟩
            rw [E1.out]
            go_wp2_with fail
            refine (ask_t hT.out x).mono ?_
            rintro e w4 ⟨rfl, h⟩
            rw [E2.out] at h
            rw [E2.out]
            have hU := hid h
            clear h
            go_wp2_with fail
            refine (ok_t hU.out).mono ?_
            rintro e w5 ⟨rfl, rfl⟩
            go_wp2
            go_roundg (gk - 1)
            case measure => omega
            case rel => exact ⟨k + 1, ⟨(rowL (X.drop (k + 1))).toArray⟩, by go_num, by omega, by omega, (show _ = _ from rfl), hU⟩
          · obtain rfl : k = X.length := by omega
            have e1 : atEnd (some rb) = true := by
              rw [atEnd_some, hrb.out, List.drop_length]; rfl
            have E1 := hid e1
            clear e1
            go_wp2_with fail
            refine (end_t hT.out).mono ?_
            rintro e w4 ⟨rfl, rfl⟩
            rw [E1.out]
            go_upto_region 19 with (fail)
            have hmod : Int.tmod (c : Int) ((sb.size : Int) + 1) = ((c % (sb.size + 1) : Nat) : Int) := rfl
            have hat : c % (sb.size + 1) < sb.size + 1 := Nat.mod_lt c (Nat.succ_pos sb.size)
            generalize c % (sb.size + 1) = p at *
            have hat' : p ≤ sb.size := by omega
            have hN := hid hT.out.drop
            clear hT E1 hrb hlt
            go_wp2_with fail
            have ht : (sb.extract 0 p).data.toList = (rowL X).take p := by rw [extract_list, hsb2.out]; simp
            have hpz : (sb.extract 0 p).size ≤ 6300 := by rw [ByteArray.size_extract]; omega
            have Ht := hid ht
            clear ht hmod
            generalize sb.extract 0 p = pb at *
            refine (newr_t hN.out pb (by omega)).mono ?_
            rintro e w4 ⟨rfl, h⟩
            have hP := hid h
            clear h hN
            generalize wr.heap.size = q at *
            obtain ⟨L0, hown0⟩ := hP.out.drop.res
            obtain ⟨ae, ce, hv, _⟩ := hown0.val
            subst hv
            clear hown0
            go_wp2
            clear hat hlt hkX hk
            go_loopg [12] 31 (fun g i wr => ∃ (k : Nat) (rb : ByteArray), i = .int .i64 k ∧ k ≤ X.length ∧ k + g = 31 ∧ eN X k ≤ p ∧ Hid (rb.data.toList = ((rowL X).take p).drop (eN X k)) ∧ Hid (Top w (star (rdR q (some rb)) (star (rowR 3 1 (.slice ae X.length ce) X.length (endsV X X.length)) emp)) wr))
            · exact ⟨0, pb, rfl, by omega, by omega, Nat.zero_le _, (show _ = _ by rw [Ht.out]; rfl), hP⟩
            · obtain ⟨k, rb, rfl, hkX, hk, hep, hrb, hT⟩ := hrel
              clear hP Ht hpz
              by_cases hlt : k < X.length
              · obtain ⟨x, hx⟩ : ∃ x, X[k]? = some x := ⟨_, List.getElem?_eq_getElem hlt⟩
                have Hx := hid hx
                obtain ⟨b, off, rfl, c0, c1, c2⟩ := items_at Hi.out hT.out.m hx
                obtain ⟨g, hg⟩ : ∃ g, ae = some ⟨g, 0, none⟩ := by
                  obtain ⟨L, ho⟩ := hT.out.drop.res
                  obtain ⟨_, _, e, _, _, h⟩ := ho.val
                  simp only [Value.slice.injEq, true_and] at e
                  obtain ⟨rfl, rfl⟩ := e
                  obtain ⟨g, h, _⟩ := h (by omega)
                  exact ⟨g, h⟩
                subst hg
                have hS : Hid (∀ (st : Option ByteArray) (Y : World), Top w (star (rdR q st) (star (rowR 3 1 (.slice (some ⟨g, 0, none⟩) X.length ce) X.length (endsV X X.length)) emp)) Y →
                    Y.cell? ⟨b, off + k * 3, none⟩ = some (.bool x.isT) ∧ Y.cell? ⟨b, off + k * 3 + 1, none⟩ = some (.string x.s) ∧ Y.cell? ⟨b, off + k * 3 + 2, none⟩ = some (.int .u64 x.n) ∧ Y.cell? ⟨g, k, none⟩ = some (.int .i64 (eN X (k + 1)))) := by
                  intro st Y hY
                  obtain ⟨b', off', e, d0, d1, d2⟩ := items_at Hi.out hY.m Hx.out
                  simp only [Option.some.injEq, Addr.mk.injEq, and_true] at e
                  obtain ⟨rfl, rfl⟩ := e
                  obtain ⟨L, ho⟩ := hY.drop.res
                  obtain ⟨_, _, e, _, _, h⟩ := ho.val
                  simp only [Value.slice.injEq, true_and] at e
                  obtain ⟨rfl, rfl⟩ := e
                  obtain ⟨g', h', _, hc⟩ := h (by omega)
                  simp only [Option.some.injEq, Addr.mk.injEq, and_true] at h'
                  subst h'
                  exact ⟨d0, d1, d2, by rw [hc k (by omega), endsV_at X (by omega)]⟩
                have c3 := (hS.out _ _ hT.out).2.2.2
                have hel := eN_le X (k + 1)
                by_cases hle : eN X (k + 1) ≤ p
                · have hrb1 := part_yes hx hle
                  rw [← hrb.out] at hrb1
                  have E2 := ask_step hrb1
                  have hpl2 : p ≤ (rowL X).length := by
                    have := hsb2.out
                    rw [← this, ← ba_size]; exact hat'
                  have hlen2 : (((rowL X).take p).drop (eN X (k + 1))).length = p - eN X (k + 1) := part_len hle hpl2
                  have E3 : atEnd (some ⟨(((rowL X).take p).drop (eN X (k + 1))).toArray⟩) = decide (eN X (k + 1) = p) := by
                    rw [atEnd_some]
                    show decide ((((rowL X).take p).drop (eN X (k + 1))).length = 0) = _
                    rw [hlen2]
                    congr 1
                    apply propext
                    omega
                  have hnew : Hid ((⟨(((rowL X).take p).drop (eN X (k + 1))).toArray⟩ : ByteArray).data.toList = ((rowL X).take p).drop (eN X (k + 1))) := (show _ = _ from rfl)
                  generalize (⟨(((rowL X).take p).drop (eN X (k + 1))).toArray⟩ : ByteArray) = rb' at *
                  have hask : Hid (∀ Y, Top w (star (rdR q (some rb)) (star (rowR 3 1 (.slice (some ⟨g, 0, none⟩) X.length ce) X.length (endsV X X.length)) emp)) Y → Calls Try.prog 25 #[.pointer (some ⟨q, 0, none⟩), .agg #[.bool x.isT, .string x.s, .int .u64 x.n]] Y fun e w' => e = .returned (.bool true) ∧ Top w (star (rdR q (some rb')) (star (rowR 3 1 (.slice (some ⟨g, 0, none⟩) X.length ce) X.length (endsV X X.length)) emp)) w') := by
                    intro Y hY
                    have h := ask_t hY x
                    rw [E2] at h
                    exact h
                  have hend : Hid (∀ Y, Top w (star (rdR q (some rb')) (star (rowR 3 1 (.slice (some ⟨g, 0, none⟩) X.length ce) X.length (endsV X X.length)) emp)) Y → Calls Try.prog 22 #[.pointer (some ⟨q, 0, none⟩)] Y fun e w' => e = .returned (.bool (decide (eN X (k + 1) = p))) ∧ Y = w') := by
                    intro Y hY
                    have h := end_t hY
                    rw [E3] at h
                    exact h
                  clear hlen2 hpl2 E2 E3 hrb1 hx
                  have hb0 := (hS.out _ _ hT.out.drew).1
                  have hb1 := (hS.out _ _ hT.out.drew).2.1
                  have hb2 := (hS.out _ _ hT.out.drew).2.2.1
                  have hb3 := (hS.out _ _ hT.out.drew).2.2.2
                  have hTd := hid hT.out.drew
                  go_upto_region 27 with (fail)
                  have hc1 : (decide ((eN X (k + 1) : Int) = (p : Int))) = decide (eN X (k + 1) = p) := by congr 1; apply propext; omega
                  go_region_held3 (fun Y => Y.cell? ⟨b, off + k * 3, none⟩ = some (.bool x.isT) ∧ Y.cell? ⟨b, off + k * 3 + 1, none⟩ = some (.string x.s) ∧ Y.cell? ⟨b, off + k * 3 + 2, none⟩ = some (.int .u64 x.n) ∧ Y.cell? ⟨g, k, none⟩ = some (.int .i64 (eN X (k + 1))))
                    (first
                      | exact ⟨hb0, hb1, hb2, hb3⟩
                      | assumption
                      | exact hS.out _ _ h.out)
                    (first
                      | (go_at_call 25; refine (hask.out _ hTd.out).mono ?_; rintro e w5 ⟨rfl, h5⟩; have h := hid h5; clear h5)
                      | (go_at_call 20; refine (ok_t h.out).mono ?_; rintro e w6 ⟨rfl, rfl⟩)
                      | (go_at_call 22; refine (hend.out _ h.out).mono ?_; rintro e w6 ⟨rfl, rfl⟩))
                  have hcw : (decide (eN X (k + 1) = p) == (((eN X (k + 1) : Nat) : Int) == (p : Int))) = true := by
                    rw [beq_iff_eq, Bool.eq_iff_iff]; simp; omega
                  go_wp2
                  · exfalso
                    have ht : (!(decide (eN X (k + 1) = p) == (((eN X (k + 1) : Nat) : Int) == (p : Int)))) = true := by assumption
                    rw [hcw] at ht
                    cases ht
                  go_roundg (gk - 1)
                  case measure => omega
                  case rel => exact ⟨k + 1, rb', by go_num, by omega, by omega, hle, hnew, h⟩
                · have hcx := part_no hx hep (by omega)
                  rw [← hrb.out] at hcx
                  have hst := eN_step hx
                  have hcut := item_cut x rb (p - eN X k) (by
                    have e : (itemB x).size = (itL x).length := by rw [ba_size]; rfl
                    omega) hcx
                  have hL : ¬ ((eN X (k + 1) : Int) ≤ (p : Int)) := by omega
                  have hcut1 := hid hcut.1
                  have hcut2 := hid hcut.2
                  clear hx hcx hcut hst hrb
                  have hX : x.isT = true ∨ x.isT = false := by cases x.isT <;> simp
                  rcases hX with hX | hX
                  · have e1 := hid (hcut1.out hX)
                    rw [hX] at c0
                    have HX := hid hX
                    clear hcut1 hcut2 hX
                    go_wp2_with fail
                    refine (text_t hT.out).mono ?_
                    rintro e w5 ⟨rfl, h⟩
                    rw [e1.out] at h
                    rw [e1.out]
                    simp only
                    have hD := hid h
                    have d0 := (hS.out _ _ h).1
                    rw [HX.out] at d0
                    clear h
                    go_wp2_with fail
                    refine (ok_t hD.out).mono ?_
                    rintro e w6 ⟨rfl, rfl⟩
                    go_wp2_with fail
                    refine (end_t hD.out).mono ?_
                    rintro e w6 ⟨rfl, rfl⟩
                    rw [show atEnd none = false from rfl]
                    go_wp2_with fail
                    refine (num_t hD.out).mono ?_
                    rintro e w6 ⟨rfl, h⟩
                    rw [show numOf none = (0, none) from rfl] at h
                    rw [show (numOf none).1 = 0 from rfl]
                    have hE := hid h
                    clear h hD
                    go_wp2_with fail
                    refine (text_t hE.out).mono ?_
                    rintro e w7 ⟨rfl, h⟩
                    rw [show textOf none = (⟨#[]⟩, none) from rfl] at h
                    rw [show (textOf none).1 = ⟨#[]⟩ from rfl]
                    have hF := hid h
                    clear h hE
                    go_wp2_with fail
                    refine (works_c _).mono ?_
                    rintro e w8 ⟨rfl, hm8⟩
                    go_wp2
                    go_ret
                    exact ⟨rfl, hF.out.m.tr hm8⟩
                  · have e1 := hid (hcut2.out hX)
                    rw [hX] at c0
                    have HX := hid hX
                    clear hcut1 hcut2 hX
                    go_wp2_with fail
                    refine (num_t hT.out).mono ?_
                    rintro e w5 ⟨rfl, h⟩
                    rw [e1.out] at h
                    rw [e1.out]
                    simp only
                    have hD := hid h
                    have d0 := (hS.out _ _ h).1
                    rw [HX.out] at d0
                    clear h
                    go_wp2_with fail
                    refine (ok_t hD.out).mono ?_
                    rintro e w6 ⟨rfl, rfl⟩
                    go_wp2_with fail
                    refine (end_t hD.out).mono ?_
                    rintro e w6 ⟨rfl, rfl⟩
                    rw [show atEnd none = false from rfl]
                    go_wp2_with fail
                    refine (num_t hD.out).mono ?_
                    rintro e w6 ⟨rfl, h⟩
                    rw [show numOf none = (0, none) from rfl] at h
                    rw [show (numOf none).1 = 0 from rfl]
                    have hE := hid h
                    clear h hD
                    go_wp2_with fail
                    refine (text_t hE.out).mono ?_
                    rintro e w7 ⟨rfl, h⟩
                    rw [show textOf none = (⟨#[]⟩, none) from rfl] at h
                    rw [show (textOf none).1 = ⟨#[]⟩ from rfl]
                    have hF := hid h
                    clear h hE
                    go_wp2_with fail
                    refine (works_c _).mono ?_
                    rintro e w8 ⟨rfl, hm8⟩
                    go_wp2
                    go_ret
                    exact ⟨rfl, hF.out.m.tr hm8⟩
              · go_wp2_with fail
                refine (works_c _).mono ?_
                rintro e w5 ⟨rfl, hm5⟩
                go_wp2
                go_ret
                exact ⟨rfl, hT.out.m.tr hm5⟩

open Go.ChangeShapes Go.WideShapes Go.Deep in
theorem row_said {H : Type} {enc : TypeId × Value → H} {base : Nat} {spare : Nat → Bool} {held : Bool} {d : DataW H} {p : List MemPlace} (a : Option Addr) (len cap : Nat) (c : Int) (w : World)
    (h : DataW.Trod enc Try.prog w base spare held 22 (.slice a len cap) d p) (hc : (Lit.int .u16 c).wf = true) :
    Calls Try.prog 6 #[.slice a len cap, .int .u16 c] w fun e w' => e = .returned (.bool true) ∧ Mod [] w w' := by
  have hb : 0 ≤ c ∧ c < 65536 := by
    simp [Lit.wf, IntKind.min, IntKind.max, IntKind.signed, IntKind.bits] at hc
    omega
  obtain ⟨k, rfl⟩ := Int.eq_ofNat_of_zero_le hb.1
  obtain ⟨xs, hl, hi, hlen⟩ := open_items h
  exact row_walk a len cap k xs w (by omega) hl hi hlen (open_shape h)

end Go.Proofs.Ytmjbpnoemdnhbaa
