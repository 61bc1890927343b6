/- Each leaf: the walk. -/
import Derived.Test.YthofkkmnngmafaaFG
namespace Go.Proofs.Ythofkkmnngmafaa
set_option linter.unusedVariables false
set_option linter.unusedSimpArgs false
set_option linter.unusedSectionVars false
open Go.RowKit

instance (p : Tr 0) (c : Ch) : Keep (trR 0 p c) := trR_keep 0 p c
instance (d : Nat) (t : Tr (d + 1)) (c : Ch) : Keep (trR (d + 1) t c) := trR_keep (d + 1) t c
theorem lvK_take {d : Nat} {ks : List (Tr d)} {bs : List ByteArray} {i : Nat} {x : Tr d} {b : ByteArray} (hx : ks[i]? = some x) (hb : bs[i]? = some b) : lvK d (ks.take (i + 1)) (bs.take (i + 1)) = lvK d (ks.take i) (bs.take i) ++ lv d x b := by
  rw [List.take_add_one, List.take_add_one, hx, hb]
  obtain ⟨h1, _⟩ := List.getElem?_eq_some_iff.1 hx
  obtain ⟨h2, _⟩ := List.getElem?_eq_some_iff.1 hb
  show lvK d (ks.take i ++ [x]) (bs.take i ++ [b]) = _
  rw [lvK_app (by simp; omega)]
  simp [lvK]

theorem lvK_len {d : Nat} : ∀ (ks : List (Tr d)) (bs : List ByteArray) (i : Nat), (lvK d (ks.take i) (bs.take i)).length ≤ (lvK d ks bs).length
  | [], bs, i => by simp [lvK]
  | k :: ks, [], i => by simp [lvK]
  | k :: ks, b :: bs, 0 => by simp [lvK]
  | k :: ks, b :: bs, i + 1 => by
    have := lvK_len ks bs i
    rw [List.take_succ_cons, List.take_succ_cons, lvK_cons, lvK_cons, List.length_append, List.length_append]
    omega
theorem lvK_sub {d : Nat} : ∀ (ks : List (Tr d)) (bs : List ByteArray) (i : Nat) (y : Lf), y ∈ lvK d (ks.take i) (bs.take i) → y ∈ lvK d ks bs
  | [], bs, i, y, h => by simp [lvK] at h
  | k :: ks, [], i, y, h => by simp [lvK] at h
  | k :: ks, b :: bs, 0, y, h => by simp [lvK] at h
  | k :: ks, b :: bs, i + 1, y, h => by
    rw [List.take_succ_cons, List.take_succ_cons, lvK_cons] at h
    rw [lvK_cons]
    rcases List.mem_append.1 h with h | h
    · exact List.mem_append.2 (Or.inl h)
    · exact List.mem_append.2 (Or.inr (lvK_sub ks bs i y h))
theorem lvK_at {d : Nat} {ks : List (Tr d)} {bs : List ByteArray} {i : Nat} {x : Tr d} {b : ByteArray} (hx : ks[i]? = some x) (hb : bs[i]? = some b) {y : Lf} (h : y ∈ lv d x b) : y ∈ lvK d ks bs :=
  lvK_sub ks bs (i + 1) y (by rw [lvK_take hx hb]; exact List.mem_append.2 (Or.inr h))
theorem lv_succ {d : Nat} (t : Tr (d + 1)) (sep : ByteArray) : lv (d + 1) t sep = lvK d t.1 (sep :: t.2) := rfl

section
variable (F : FuncId) (caps : Array Value) (R : List Lf → Res) (N : Nat) (Qp : Lf → Prop)
/-- What is known of the function that is called at each leaf. -/
def SeeOk : Prop := ∀ (acc : List Lf) (s : ByteArray) (p : Nat) (W : World) (L : List Nat), acc.length < N → Qp (s, p) → R acc W L → Calls Try.prog F (#[.string s, .int .u64 p] ++ caps) W (Gives W L fun r w L => r = .tuple #[] ∧ R (acc ++ [(s, p)]) w L)

set_option maxRecDepth 100000 in
set_option maxHeartbeats 2000000 in
theorem each_c (enter : ∀ args w, (callFunc F args).run Try.prog w = .ok (.enter F args) w) (hsee : SeeOk F caps R N Qp) : ∀ (d : Nat) (t : Tr d) (c : Ch) (w0 : World) (L0 : List Nat) (w : World) (sep : ByteArray) (acc : List Lf) (U : Res) [Keep U], Hld w0 L0 (star (R acc) (star (trR d t c) U)) w → Fan d t → acc.length + (lv d t sep).length ≤ N → (∀ y ∈ lv d t sep, Qp y) →
    Calls Try.prog 28 #[chV c, .string sep, .func (.func F) #[] caps] w fun e w' => e = .returned (.tuple #[]) ∧ Hld w0 L0 (star (R (acc ++ lv d t sep)) (star (trR d t c) U)) w'
  | 0, p, c, w0, L0, w, sep, acc, U, _, h, _, hN, hQ => by
    have hQ1 : Hid (Qp (sep, p)) := hQ _ (by simp [lv])
    have hN1 : acc.length < N := by simp [lv] at hN; omega
    clear hN hQ
    obtain ⟨hc, _⟩ := h.swap.fact
    subst hc
    have H := hid h
    have q3 := ta_ll
    clear h
    rw [show chV (.lf p) = .iface 58 (.int .u64 (p : Nat)) from rfl]
    go_enter Try.func28, Try.ntmps28
    go_wp2_with fail
    refine (H.out.call (fun L hL => hsee acc sep p w L hN1 hQ1.out hL)).mono ?_
    rintro e w1 ⟨r, rfl, HR⟩
    obtain ⟨rfl, HR1⟩ := HR.fact
    have HR1 := hid HR1
    clear HR H
    go_wp2
    exact bodyPost_end (results_none rfl _ _ _) rfl ⟨rfl, HR1.out⟩
  | d + 1, t, c, w0, L0, w, sep, acc, U, _, h, hF, hN, hQ => by
    have HN := hid hN
    have HQ := hid hQ
    clear hN hQ
    obtain ⟨b, cs, hc, hcl, HO⟩ := h.swap.tr_open
    subst hc
    have h1 := hF.1
    have hlen := hF.2.2.1
    have h5 := hF.2.1
    obtain ⟨kv, sv, HO2⟩ := HO.nd_open
    have b0 := HO2.get.cell 0
    have hbl := HO2.get.lt
    obtain ⟨L1, hk⟩ := HO2.drop.res
    obtain ⟨ga, cap, rfl, _, _, hg⟩ := Own.val hk
    obtain ⟨g, rfl, _⟩ := hg (by omega)
    simp only [List.getElem?_toArray, List.getElem?_cons_zero] at b0
    rw [hcl] at b0
    have H := hid ((HO2.ent (ent_pull5 _ _ _ _ _ _)).ent ((((ent_swap _ _ _).under _).under _).under _))
    have Hcl := hid (And.intro hcl hlen)
    have hF0 := hid hF
    have q1 := ta_ln
    have q2 := ta_nn
    clear HO HO2 h hk hg hcl hlen hF
    rw [show chV (.nd b) = .iface 65 (.pointer (some ⟨b, 0, none⟩)) from rfl]
    go_enter Try.func28, Try.ntmps28
    go_wp2
    clear b0 hbl
    go_loopg [26, 1] t.1.length (fun g' p q wr => ∃ (i : Nat) (s : ByteArray), p = .int .i64 (i : Int) ∧ q = .string s ∧ i + g' = t.1.length ∧ Hid ((i = 0 → s = sep) ∧ ∀ j, i = j + 1 → (sep :: t.2)[j]? = some s) ∧ Hid (Hld w0 L0 (star (R (acc ++ lvK d (t.1.take i) ((sep :: t.2).take i))) (star (boxR b #[.slice (some ⟨g, 0, none⟩) cs.length cap, sv] 72) (star (rowR 60 1 (.slice (some ⟨g, 0, none⟩) cs.length cap) cs.length (flat chC cs)) (star (allR (trR d) t.1 cs) (star (rowR 9 1 sv t.2.length (flat stC t.2)) U))))) wr))
    · refine ⟨0, sep, rfl, rfl, by omega, ⟨fun _ => rfl, fun j hj => by omega⟩, ?_⟩
      have e : acc ++ lvK d (t.1.take 0) ((sep :: t.2).take 0) = acc := by simp [lvK]
      rw [e]
      exact H.out
    · obtain ⟨i, s, rfl, rfl, hi, hs, hT⟩ := hrel
      by_cases hlt : i < t.1.length
      · obtain ⟨x, hx⟩ : ∃ x, t.1[i]? = some x := ⟨_, List.getElem?_eq_getElem hlt⟩
        obtain ⟨hcl, hlen⟩ := Hcl.out
        obtain ⟨ci, hci⟩ : ∃ ci, cs[i]? = some ci := ⟨_, List.getElem?_eq_getElem (by omega)⟩
        obtain ⟨s', hs'⟩ : ∃ s', (sep :: t.2)[i]? = some s' := ⟨_, List.getElem?_eq_getElem (by simp; omega)⟩
        have hFx : Fan d x := hF0.out.2.2.2 x (List.mem_of_getElem? hx)
        obtain ⟨hj1, hje⟩ := List.getElem?_eq_some_iff.1 hx
        obtain ⟨hj2, hje2⟩ := List.getElem?_eq_some_iff.1 hci
        have e1 : t.1 = t.1.take i ++ x :: t.1.drop (i + 1) := by rw [← hje, ← List.drop_eq_getElem_cons hj1, List.take_append_drop]
        have e2 : cs = cs.take i ++ ci :: cs.drop (i + 1) := by rw [← hje2, ← List.drop_eq_getElem_cons hj2, List.take_append_drop]
        have hll : (t.1.take i).length = (cs.take i).length := by simp; omega
        -- the cells
        have b0 := hT.out.drop.get.cell 0
        have b1 := hT.out.drop.get.cell 1
        have hbl := hT.out.drop.get.lt
        obtain ⟨L2, hk2⟩ := hT.out.drop.drop.res
        obtain ⟨_, _, e0, _, _, hg⟩ := Own.val hk2
        obtain ⟨g', eg, _, hcell⟩ := hg (by omega)
        cases e0
        cases eg
        have c0 : wr.cell? ⟨g, i, none⟩ = some (chV ci) := by
          rw [hcell i (by omega)]
          have := flat_at ch_lays cs i ci hci 0 (by decide)
          simpa [chC] using this
        obtain ⟨L3, hk3⟩ := hT.out.drop.drop.drop.drop.res
        obtain ⟨gs, capS, rfl, _, _, hg3⟩ := Own.val hk3
        simp only [List.getElem?_toArray, List.getElem?_cons_zero, List.getElem?_cons_succ] at b0 b1
        have hi1 : (i : Int) < (t.1.length : Int) := by omega
        have hi0 : (0 : Int) ≤ (i : Int) := by omega
        have hmid : Ent (allR (trR d) t.1 cs) (star (trR d x ci) (allR (trR d) (t.1.take i ++ t.1.drop (i + 1)) (cs.take i ++ cs.drop (i + 1)))) := by
          have h := ent_mid (trR d) x ci (t.1.drop (i + 1)) (cs.drop (i + 1)) _ _ hll
          rw [← e1, ← e2] at h
          exact h
        have hmid2 : Ent (star (trR d x ci) (allR (trR d) (t.1.take i ++ t.1.drop (i + 1)) (cs.take i ++ cs.drop (i + 1)))) (allR (trR d) t.1 cs) := by
          have h := ent_mid2 (trR d) x ci (t.1.drop (i + 1)) (cs.drop (i + 1)) _ _ hll
          rw [← e1, ← e2] at h
          exact h
        have HK := hid (hT.out.ent (((ent_pull3 _ _ _ _).trans ((Ent.left hmid _).trans (ent_assoc1 _ _ _))).under _))
        have Hm2 := hid hmid2
        have HB0 := hid (lvK_len t.1 (sep :: t.2) (i + 1))
        have htk := hid (lvK_take hx hs')
        have HQx : Hid (∀ y ∈ lv d x s', Qp y) := fun y hy => HQ.out y (lvK_at hx hs' hy)
        have hkey : s' = (if i = 0 then sep else s') := by
          split
          · rename_i h0; subst h0; simpa using hs'.symm
          · rfl
        rcases Nat.eq_zero_or_pos i with hz | hz
        · subst hz
          have es : s = s' := by
            rw [hs.out.1 rfl]
            simpa using hs'
          subst es
          have HB : Hid ((acc ++ lvK d (t.1.take 0) ((sep :: t.2).take 0)).length + (lv d x s).length ≤ N) := by
            have h1 := HB0.out
            rw [htk.out] at h1
            have h2 := HN.out
            simp only [lv_succ, List.length_append] at h1 h2
            show _ ≤ _
            simp only [List.length_append]
            omega
          clear HB0
          have Hsn : Hid ((sep :: t.2)[0]? = some s) := hs'
          clear hmid hmid2 hx hci hs' e1 e2 hje hje2 hk2 hg hk3 hg3 hcell hkey hs hlen hll
          go_wp2_with fail
          refine (each_c enter hsee d x ci w0 L0 wr s _ _ HK.out hFx HB.out HQx.out).mono ?_
          rintro e w1 ⟨rfl, HR⟩
          have HR2 := hid (HR.ent (((ent_assoc2 _ _ _).trans ((Ent.left Hm2.out _).trans ((ent_swap _ _ _).trans ((ent_swap _ _ _).under _)))).under _))
          clear HR HK b0 b1 c0
          go_wp2
          go_roundg (gk - 1)
          case measure => omega
          case rel =>
            have HJ : ∀ j, 0 + 1 = j + 1 → (sep :: t.2)[j]? = some s := by
              intro j hj
              obtain rfl : j = 0 := by omega
              exact Hsn.out
            refine ⟨0 + 1, s, by go_num, rfl, by omega, ⟨fun h => by omega, HJ⟩, ?_⟩
            rw [htk.out, ← List.append_assoc]
            exact HR2.out
        · obtain ⟨k, rfl⟩ : ∃ k, i = k + 1 := ⟨i - 1, by omega⟩
          have hsk : t.2[k]? = some s' := by simpa using hs'
          have HB : Hid ((acc ++ lvK d (t.1.take (k + 1)) ((sep :: t.2).take (k + 1))).length + (lv d x s').length ≤ N) := by
            have h1 := HB0.out
            rw [htk.out] at h1
            have h2 := HN.out
            simp only [lv_succ, List.length_append] at h1 h2
            show _ ≤ _
            simp only [List.length_append]
            omega
          clear HB0
          obtain ⟨g2, rfl, _, hcell3⟩ := hg3 (by omega)
          have hkl : k < t.2.length := (List.getElem?_eq_some_iff.1 hsk).1
          have c1 : wr.cell? ⟨g2, k, none⟩ = some (.string s') := by
            rw [hcell3 k (by omega)]
            have := flat_at st_lays t.2 k s' hsk 0 (by decide)
            simpa [stC] using this
          have Hsn : Hid ((sep :: t.2)[k + 1]? = some s') := hs'
          have hk1 : (k : Int) < (t.2.length : Int) := by omega
          have hk0 : (0 : Int) ≤ (k : Int) := by omega
          clear hmid hmid2 hx hci hs' e1 e2 hje hje2 hk2 hg hk3 hg3 hcell hcell3 hkey hs hlen hll hsk hz
          go_wp2_with fail
          refine (each_c enter hsee d x ci w0 L0 wr s' _ _ HK.out hFx HB.out HQx.out).mono ?_
          rintro e w1 ⟨rfl, HR⟩
          have HR2 := hid (HR.ent (((ent_assoc2 _ _ _).trans ((Ent.left Hm2.out _).trans ((ent_swap _ _ _).trans ((ent_swap _ _ _).under _)))).under _))
          clear HR HK b0 b1 c0 c1
          go_wp2
          go_roundg (gk - 1)
          case measure => omega
          case rel =>
            have HJ : ∀ j, k + 1 + 1 = j + 1 → (sep :: t.2)[j]? = some s' := by
              intro j hj
              obtain rfl : j = k + 1 := by omega
              exact Hsn.out
            refine ⟨k + 1 + 1, s', by go_num, rfl, by omega, ⟨fun h => by omega, HJ⟩, ?_⟩
            rw [htk.out, ← List.append_assoc]
            exact HR2.out
      · have hi1 : ¬ (i : Int) < (t.1.length : Int) := by omega
        have hin : i = t.1.length := by omega
        have hT2 := hid hT.out
        have hin2 := hid hin
        clear hs hin
        go_wp2
        have hl : Hid ((sep :: t.2).length = i) := by show _ = _; have := Hcl.out.2; have := hin2.out; simp; omega
        refine bodyPost_end (results_none rfl _ _ _) rfl ⟨rfl, ?_⟩
        have h := hT2.out
        rw [hin2.out, List.take_length, show (sep :: t.2).take t.1.length = sep :: t.2 from List.take_of_length_le (by have := Hcl.out.2; simp; omega)] at h
        exact h.ent ((((((ent_swap _ _ _).under _).under _).trans (ent_nd b cs t.2 _ _ _ _ rfl rfl _)).trans (ent_tr t b cs t.1 t.2 rfl U)).under _)
end
end Go.Proofs.Ythofkkmnngmafaa
