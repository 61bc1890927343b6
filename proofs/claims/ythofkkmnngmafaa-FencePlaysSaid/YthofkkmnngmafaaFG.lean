/- A leaf is put in: the walk. -/
import Derived.Test.YthofkkmnngmafaaFE
namespace Go.Proofs.Ythofkkmnngmafaa
set_option linter.unusedVariables false
set_option linter.unusedSimpArgs false
set_option linter.unusedSectionVars false
open Go.RowKit

theorem begs_srt {d : Nat} : ∀ {ks : List (Tr d)} {bs : List ByteArray}, ks.length = bs.length → (∀ x ∈ ks, Fan d x) → SrtL (lvK d ks bs) → SrtS bs
  | [], [], _, _, _ => List.Pairwise.nil
  | [], _ :: _, h, _, _ => by simp at h
  | _ :: _, [], h, _, _ => by simp at h
  | c :: ks, b :: bs, h, hF, hs => by
    rw [lvK_cons] at hs
    obtain ⟨h1, h2, h3⟩ := List.pairwise_append.1 hs
    have hF' : ∀ x ∈ ks, Fan d x := fun x hx => hF x (by simp [hx])
    obtain ⟨p, l, e⟩ := lv_head d c b (hF c (by simp))
    refine List.pairwise_cons.2 ⟨fun b' hb' => ?_, begs_srt (by simpa using h) hF' h2⟩
    obtain ⟨p', hp'⟩ := lvK_mem hF' (by simpa using h) b' hb'
    exact h3 (b, p) (by rw [e]; simp) (b', p') hp'
theorem seps_srt {d : Nat} {t : Tr (d + 1)} {s : ByteArray} (hF : Fan1 d t) (hs : SrtL (lv (d + 1) t s)) : SrtS t.2 :=
  (List.pairwise_cons.1 (begs_srt (ks := t.1) (bs := s :: t.2) (by simpa using hF.2.2.1) hF.2.2.2 hs)).2

theorem cin1_c (w : World) (v : Value) (l : List Ch) (i : Nat) (z : Int) (hz : z = (i : Int)) (x : Ch) (b : Nat) (L : List Nat) (ho : Own w 60 1 v l.length (flat chC l) L) (hi : i ≤ l.length) (hl : l.length ≤ 1000000) (hb : Blk w b #[chV x] 60) (hbL : b ∉ L) :
    Calls Try.prog 59 #[v, .int .i64 z, .slice (some ⟨b, 0, none⟩) 1 1] w (cinSays w L (l.take i ++ x :: l.drop i)) := by
  subst hz; exact cin_c w v l i x b L ho hi hl hb hbL

theorem ta_nl (p : Nat) (w : World) : (Instr.typeAssert (.iface 58 (.int .u64 p)) 60 65 true).run Try.prog w = .ok (.tuple #[.pointer none, .bool false]) w := by kernel_rfl
theorem ta_nn (a : Addr) (w : World) : (Instr.typeAssert (.iface 65 (.pointer (some a))) 60 65 true).run Try.prog w = .ok (.tuple #[.pointer (some a), .bool true]) w := by kernel_rfl
theorem ta_ll (p : Nat) (w : World) : (Instr.typeAssert (.iface 58 (.int .u64 p)) 60 58 true).run Try.prog w = .ok (.tuple #[.int .u64 p, .bool true]) w := by kernel_rfl
theorem ta_ln (a : Addr) (w : World) : (Instr.typeAssert (.iface 65 (.pointer (some a))) 60 58 true).run Try.prog w = .ok (.tuple #[.int .u64 0, .bool false]) w := by kernel_rfl
theorem ta_nn1 (a : Addr) (w : World) : (Instr.typeAssert (.iface 65 (.pointer (some a))) 60 65 false).run Try.prog w = .ok (.pointer (some a)) w := by kernel_rfl

/-- What insert gives back. -/
def InsG (d : Nat) (r : Tr d × Option (Tr d × ByteArray)) (c : Ch) : Value → Res := fun v w L =>
  match r with
  | (t, none) => v = .tuple #[.nilIface, .string ⟨#[]⟩] ∧ trR d t c w L
  | (t, some (m, b)) => ∃ cm, v = .tuple #[chV cm, .string b] ∧ star (trR d t c) (trR d m cm) w L
theorem chV_iface (c : Ch) : ∃ ty v, chV c = .iface ty v := by
  cases c
  · exact ⟨_, _, rfl⟩
  · exact ⟨_, _, rfl⟩

theorem ndR.kid {w : World} {b : Nat} {cs : List Ch} {ss : List ByteArray} {L : List Nat} (h : ndR b cs ss w L) {i : Nat} {c : Ch} (hc : cs[i]? = some c) : ∃ g cap, w.cell? ⟨b, 0, none⟩ = some (.slice (some ⟨g, 0, none⟩) cs.length cap) ∧ w.cell? ⟨g, i, none⟩ = some (chV c) := by
  obtain ⟨kv, sv, Lk, Ls, hb, hk, _⟩ := h
  obtain ⟨hi, _⟩ := List.getElem?_eq_some_iff.1 hc
  obtain ⟨a, cap, rfl, _, _, hg⟩ := hk.val
  obtain ⟨g, rfl, _, hcell⟩ := hg (by omega)
  refine ⟨g, cap, hb.cell 0, ?_⟩
  rw [hcell i (by omega)]
  have := flat_at ch_lays cs i c hc 0 (by decide)
  simpa [chC] using this
theorem ndR.lt {w : World} {b : Nat} {cs : List Ch} {ss : List ByteArray} {L : List Nat} (h : ndR b cs ss w L) : b < w.heap.size := by
  obtain ⟨kv, sv, Lk, Ls, hb, _⟩ := h
  exact hb.lt
/-- A child out of its node. -/
theorem Hld.out_kid {w0 w : World} {L0 : List Nat} {U : Res} {d b : Nat} {cs CA CB : List Ch} {c : Ch} {ss : List ByteArray} {ks A B : List (Tr d)} {x : Tr d} (h : Hld w0 L0 (star (ndR b cs ss) (star (allR (trR d) ks cs) U)) w) (ek : ks = A ++ x :: B) (ec : cs = CA ++ c :: CB) (hl : A.length = CA.length) :
    Hld w0 L0 (star (trR d x c) (star (allR (trR d) (A ++ B) (CA ++ CB)) (star (ndR b cs ss) U))) w := by
  have h1 := h.swap
  rw [ek] at h1
  conv at h1 => arg 3; arg 1; rw [ec]
  exact (h1.ent (Ent.left (ent_mid (trR d) x c B CB A CA hl) _)).as1
theorem Hld.in_kid {w0 w : World} {L0 : List Nat} {U : Res} {d b : Nat} {cs CA CB : List Ch} {c : Ch} {ss : List ByteArray} {A B : List (Tr d)} {x : Tr d} (h : Hld w0 L0 (star (trR d x c) (star (allR (trR d) (A ++ B) (CA ++ CB)) (star (ndR b cs ss) U))) w) (hl : A.length = CA.length) :
    Hld w0 L0 (star (ndR b cs ss) (star (allR (trR d) (A ++ x :: B) (CA ++ c :: CB)) U)) w :=
  (h.as2.ent (Ent.left (ent_mid2 (trR d) x c B CB A CA hl) _)).swap

theorem ent_tr1 {d : Nat} (b : Nat) (cs : List Ch) (ks : List (Tr d)) (ss : List ByteArray) : Ent (star (ndR b cs ss) (allR (trR d) ks cs)) (trR (d + 1) (ks, ss) (.nd b)) := fun w L h => ⟨L, ⟨b, cs, rfl, h⟩, fun _ h => h⟩
set_option maxRecDepth 100000 in
set_option maxHeartbeats 4000000 in
theorem insert_c : ∀ (d : Nat) (t : Tr d) (c : Ch) (w : World) (L : List Nat) (s sep : ByteArray) (pid : Nat), trR d t c w L → Fan d t → SrtL (lv d t s) → ¬ SL sep s →
    Calls Try.prog 33 #[chV c, .string sep, .int .u64 pid] w (Gives w L (InsG d (insT d t sep pid) c))
  | 0, p, c, w, L, s, sep, pid, h, _, _, _ => by
    obtain ⟨rfl, rfl⟩ := h
    unfold chV
    have q1 := ta_nl
    have q2 := ta_nn
    go_enter Try.func33, Try.ntmps33
    go_wp2
    go_ret2
    exact ⟨_, rfl, [], ⟨.lf pid, rfl, [], [], ⟨rfl, rfl⟩, ⟨rfl, rfl⟩, rfl, by simp⟩, Mod.refl _ _, by simp⟩
  | d + 1, t, c, w, L, s, sep, pid, h, hF, hs, hsk => by
    have hF1 := hF
    obtain ⟨h1, h2, h3, h4⟩ := hF1
    have H3 := hid h3
    obtain ⟨b, cs, rfl, hcl, HH⟩ := ((Hld.start h).ent (ent_emp2 _)).tr_open
    obtain ⟨i, hi⟩ : ∃ i, i = atI t.2 sep := ⟨_, rfl⟩
    have hil : i < t.1.length := by have := atI_le t.2 sep; omega
    obtain ⟨x, hx⟩ : ∃ x, t.1[i]? = some x := ⟨_, List.getElem?_eq_getElem hil⟩
    obtain ⟨A, B, SA, sc, SB, hC⟩ := cut_at s h3 hx
    rw [hi] at hC
    obtain ⟨k1, k2, k3, k4, k5⟩ := cut_key h3 h4 hs hsk hC
    rw [← hi] at hC
    obtain ⟨ci, hci⟩ : ∃ ci, cs[i]? = some ci := ⟨_, List.getElem?_eq_getElem (by omega)⟩
    have hS := seps_srt hF.one hs
    obtain ⟨L1, hL1⟩ := HH.res
    have hat := at_c w b cs t.2 sep L1 hL1 hS (by omega)
    rw [← hi] at hat
    obtain ⟨CA, CB, ecs, eCA, eCB⟩ : ∃ CA CB, cs = CA ++ ci :: CB ∧ CA.length = i ∧ CB.length = B.length := by
      obtain ⟨hj, e⟩ := List.getElem?_eq_some_iff.1 hci
      refine ⟨cs.take i, cs.drop (i + 1), ?_, by simp; omega, ?_⟩
      · rw [← e, ← List.drop_eq_getElem_cons hj, List.take_append_drop]
      · have := congrArg List.length hC.ks
        have := hC.la
        simp at *; omega
    have eA := hC.la
    have ek := hC.ks
    have HHd := hid HH
    have Hat := hid hat
    have Hfacts := hid (⟨hF, hs, hC, And.intro k1 (And.intro k4 k5), hx, hi⟩ : _ ∧ _ ∧ _ ∧ _ ∧ _ ∧ _)
    have Hcs := hid (⟨ecs, eCA, eCB, eA, ek, hcl⟩ : _ ∧ _ ∧ _ ∧ _ ∧ _ ∧ _)
    have Hci := hid hci
    clear h hF hs hsk hC k1 k2 k3 k4 k5 hx hi hS hL1 hat HH ecs eCA eCB eA ek hci h4 h3 hcl
    unfold chV
    have q1 := ta_nl
    have q2 := ta_nn
    go_enter Try.func33, Try.ntmps33
    go_wp2_with fail
    refine Hat.out.mono ?_
    rintro e w1 ⟨rfl, hm1⟩
    have HH1 := HHd.out.mod hm1
    obtain ⟨L1, hL1⟩ := HH1.res
    obtain ⟨g, cap, b0, b0i⟩ := hL1.kid Hci.out
    have hbl := hL1.lt
    have hi1 : (i : Int) < (cs.length : Int) := by have := Hcs.out.2.2.2.2.2; omega
    have hi0 : (0 : Int) ≤ (i : Int) := by omega
    have HHc := hid (HH1.out_kid Hcs.out.2.2.2.2.1 Hcs.out.1 (by rw [Hcs.out.2.2.2.1, Hcs.out.2.1]))
    clear hL1 HH1 hm1 Hat HHd
    go_wp2_with fail
    refine (HHc.out.call (fun L hL => insert_c d x ci w1 L sc sep pid hL Hfacts.out.2.2.2.1.2.2 Hfacts.out.2.2.2.1.2.1 Hfacts.out.2.2.2.1.1)).mono ?_
    rintro e w2 ⟨r, rfl, HH2⟩
    clear HHc b0 b0i hbl
    have HR : Hid (insT (d + 1) t sep pid = match insT d x sep pid with
      | (c', none) => ((t.1.set i c', t.2), none)
      | (c', some (m, b)) => splT ((t.1.set i c').take (i + 1) ++ m :: (t.1.set i c').drop (i + 1)) (t.2.take i ++ b :: t.2.drop i)) := by
      have hx := Hfacts.out.2.2.2.2.1
      have hi := Hfacts.out.2.2.2.2.2
      rw [hi] at hx ⊢
      show _ = _
      simp only [insT, hx]
      cases insT d x sep pid with
      | mk c' o => cases o <;> rfl
    have HH2' := hid HH2
    clear HH2
    generalize insT d x sep pid = o at *
    obtain ⟨x', o⟩ := o
    cases o with
    | none =>
      obtain ⟨rfl, HH3⟩ := HH2'.out.fact
      have HH4 := hid (HH3.in_kid (by rw [Hcs.out.2.2.2.1, Hcs.out.2.1]))
      clear HH3 HH2'
      go_wp2
      go_ret2
      refine ⟨_, rfl, ?_⟩
      rw [HR.out]
      refine Hld.also rfl ?_
      have e1 : t.1.set i x' = A ++ x' :: B := by
        rw [Hcs.out.2.2.2.2.1]
        conv => lhs; rw [← Hcs.out.2.2.2.1]
        exact set_at _ _ _ _
      rw [e1]
      have h := HH4.out
      rw [← Hcs.out.1] at h
      exact h.tr.ent (ent_emp1 _)
    | some mb =>
      obtain ⟨m, bm⟩ := mb
      obtain ⟨cm, HHa⟩ := HH2'.out.ex
      obtain ⟨rfl, HH3⟩ := HHa.fact
      clear HHa
      obtain ⟨ty, vv, hv⟩ := chV_iface cm
      rw [hv]
      have HV := hid hv
      have HH4 := hid HH3
      clear hv HH3 HH2'
      have HN := HH4.out.as1.ent (ent_pull4 _ _ _ _ _)
      obtain ⟨kv, sv, HN⟩ := HN.nd_open
      have HN := hid HN
      have hB := HN.out.get
      have b0 := hB.cell 0
      have hbl := hB.lt
      simp only [List.getElem?_toArray, List.getElem?_cons_zero] at b0
      obtain ⟨L1, hk⟩ := HN.out.drop.res
      obtain ⟨ga, gcap, rfl, _, _, hg⟩ := Own.val hk
      obtain ⟨g2, rfl, rfl, _⟩ := hg (by omega)
      have hgl := hk.lt g2 (by simp)
      have hcs2 : cs.length ≤ 5 := by have := Hcs.out.2.2.2.2.2; omega
      have hi2 : (i : Int) + 1 ≤ 9223372036854775807 := by omega
      clear hB hk hg HH4
      go_wp2_with fail
      have HB := hid (Blk.new w2 #[.iface ty vv] 60)
      have HN2 := hid (HN.out.mod ((Mod.refl [] w2).alloc (.cells #[.iface ty vv] 60)))
      clear b0 HN hbl
      generalize w2.alloc (.cells #[.iface ty vv] 60) = W at *
      generalize w2.heap.size = q at *
      obtain ⟨Lk, hk2, upd⟩ := HN2.out.swap.first
      obtain ⟨rfl, _⟩ := Own.blk hk2
      refine (cin1_c W _ cs (i + 1) _ (by simp) cm q [g2] hk2 (by omega) (by omega) (by rw [HV.out]; exact HB.out) (by simp; omega)).mono ?_
      rintro e w3 ⟨v', L', rfl, ho', hm3, hf3⟩
      have HN3 := (upd (rowR 60 1 v' _ _) w3 L' ho' hm3 hf3).swap
      obtain ⟨a3, cap3, rfl, _, _, _⟩ := Own.val ho'
      clear upd hk2 ho' hm3 hf3 HN2 HB hgl
      have hB := HN3.get
      have f0 := hB.free 0
      have b0 := hB.cell 0
      have b1 := hB.cell 1
      have hbl := hB.lt
      simp only [List.getElem?_toArray, List.getElem?_cons_zero, List.getElem?_cons_succ] at b0 b1
      have HN3 := hid HN3
      obtain ⟨cs', hcs'⟩ : ∃ cs', cs' = cs.take (i + 1) ++ cm :: cs.drop (i + 1) := ⟨_, rfl⟩
      have hlc : cs'.length = cs.length + 1 := by rw [hcs']; simp; omega
      rw [← hcs'] at HN3 ⊢
      have Hcs' := hid hcs'
      have Hlc := hid hlc
      have hlc1 : (cs'.length : Int) ≤ (cs.length : Int) + 1 := by omega
      clear hB hcs' hlc
      go_upto_region 9 with (fail)
      have HN4 := hid (HN3.out.set 0 (.slice a3 cs'.length cap3))
      clear HN3 b0 b1 f0 hbl
      generalize w3.setCell ⟨b, 0, none⟩ (.slice a3 cs'.length cap3) = w4 at *
      have hB := HN4.out.get
      have b1 := hB.cell 1
      have hbl := hB.lt
      simp only [List.getElem?_toArray, List.getElem?_cons_zero, List.getElem?_cons_succ, List.setIfInBounds_toArray, List.set_cons_zero] at b1
      obtain ⟨L1, hk⟩ := HN4.out.drop.drop.res
      obtain ⟨gs, scap, rfl, _, _, hg⟩ := Own.val hk
      have hsl : t.2.length ≤ 4 := by have := H3.out; omega
      have hsp : 0 < t.2.length := by have := H3.out; omega
      have hil2 : i ≤ t.2.length := by have := H3.out; omega
      obtain ⟨g3, rfl, rfl, _⟩ := hg hsp
      have hgl := hk.lt g3 (by simp)
      clear hB hk hg
      go_wp2_with fail
      have HB := hid (Blk.new w4 #[.string bm] 9)
      have HN5 := hid (HN4.out.mod ((Mod.refl [] w4).alloc (.cells #[.string bm] 9)))
      clear b1 HN4 hbl
      generalize w4.alloc (.cells #[.string bm] 9) = W5 at *
      generalize w4.heap.size = q5 at *
      obtain ⟨Ls, hs2, upd⟩ := HN5.out.swap.swap2.swap.first
      obtain ⟨rfl, _⟩ := Own.blk hs2
      refine (sin_c W5 _ t.2 i bm q5 [g3] hs2 hil2 (by omega) HB.out (by simp; omega)).mono ?_
      rintro e w6 ⟨v6, L6, rfl, ho', hm3, hf3⟩
      have HN6 := ((upd (rowR 9 1 v6 _ _) w6 L6 ho' hm3 hf3).ent (ent_pull3 _ _ _ _)).swap2
      obtain ⟨a6, cap6, rfl, _, _, _⟩ := Own.val ho'
      clear upd hs2 ho' hm3 hf3 HN5 HB hgl
      have hB := HN6.get
      have f1 := hB.free 1
      have b0 := hB.cell 0
      have b1 := hB.cell 1
      have hbl := hB.lt
      simp only [List.getElem?_toArray, List.getElem?_cons_zero, List.getElem?_cons_succ, List.setIfInBounds_toArray, List.set_cons_zero] at b0 b1
      have HN6 := hid HN6
      obtain ⟨ss', hss'⟩ : ∃ ss', ss' = t.2.take i ++ bm :: t.2.drop i := ⟨_, rfl⟩
      have hls : ss'.length = t.2.length + 1 := by rw [hss']; simp; omega
      rw [← hss'] at HN6 ⊢
      have Hss' := hid hss'
      have Hls := hid hls
      have hls1 : (ss'.length : Int) ≤ (t.2.length : Int) + 1 := by omega
      clear hB hss' hls
      go_upto_region 10 with (fail)
      have HN7 := hid (HN6.out.set 1 (.slice a6 ss'.length cap6))
      clear HN6 b0 b1 f1 hbl
      generalize w6.setCell ⟨b, 1, none⟩ (.slice a6 ss'.length cap6) = w7 at *
      have hB := HN7.out.get
      have b0 := hB.cell 0
      have hbl := hB.lt
      simp only [List.getElem?_toArray, List.getElem?_cons_zero, List.getElem?_cons_succ, List.setIfInBounds_toArray, List.set_cons_zero, List.set_cons_succ] at b0
      clear hB
      -- the node again
      have HN8 : Hid (Hld w L (star (ndR b cs' ss') (star (trR d x' ci) (star (trR d m cm) (star (allR (trR d) (A ++ B) (CA ++ CB)) emp)))) w7) :=
        Hld.nd (kv := .slice a3 cs'.length cap3) (sv := .slice a6 ss'.length cap6) HN7.out (by rw [Hcs'.out]) (by rw [Hss'.out])
      have hl := Hcs.out.2.2.2.1.trans Hcs.out.2.1.symm
      have ecs' : cs' = CA ++ ci :: cm :: CB := by
        rw [Hcs'.out, Hcs.out.1]
        conv => lhs; rw [← Hcs.out.2.1]
        exact ins_after _ _ _ _
      have HN9 : Hid (Hld w L (star (ndR b cs' ss') (star (allR (trR d) (A ++ x' :: m :: B) cs') emp)) w7) := by
        have h9 := HN8.out
        have k := h9.ent (((((ent_assoc2 (trR d m cm) _ emp).trans (Ent.left (ent_mid2 (trR d) m cm B CB A CA hl) emp)).under (trR d x' ci)).trans ((ent_assoc2 _ _ _).trans (Ent.left (ent_mid2 (trR d) x' ci (m :: B) (cm :: CB) A CA hl) emp))).under _)
        rw [← ecs'] at k
        exact k
      have eks : (t.1.set i x').take (i + 1) ++ m :: (t.1.set i x').drop (i + 1) = A ++ x' :: m :: B := by
        have e1 : t.1.set i x' = A ++ x' :: B := by
          rw [Hcs.out.2.2.2.2.1]
          conv => lhs; rw [← Hcs.out.2.2.2.1]
          exact set_at _ _ _ _
        rw [e1]
        conv => lhs; rw [← Hcs.out.2.2.2.1]
        exact ins_after _ _ _ _
      have HR2 : Hid (insT (d + 1) t sep pid = splT (A ++ x' :: m :: B) ss') := by
        show _ = _
        rw [HR.out]
        show splT _ _ = _
        rw [eks, Hss'.out]
      have hkl : (A ++ x' :: m :: B).length = cs'.length := by
        obtain ⟨L9, hL9⟩ := HN9.out.drop.res
        exact allR_len hL9
      have Hkl := hid hkl
      clear HN7 HN8 HR eks ecs' hkl hl
      generalize A ++ x' :: m :: B = ks at *
      by_cases h5 : cs'.length ≤ 5
      · have h5i : (cs'.length : Int) ≤ 5 := by omega
        go_wp2
        go_ret2
        refine ⟨_, rfl, ?_⟩
        rw [HR2.out]
        unfold splT
        rw [if_pos (by rw [Hkl.out]; exact h5)]
        exact Hld.also rfl (HN9.out.tr.ent (ent_emp1 _))
      · have h5i : ¬ (cs'.length : Int) ≤ 5 := by omega
        have h6 : cs'.length = 6 := by have := Hlc.out; omega
        have h7 : ss'.length = 5 := by have := Hlc.out; have := Hls.out; have := H3.out; have := Hcs.out.2.2.2.2.2; omega
        have hsep : ss'[2]? = some (ss'.getD 2 mt) := by rw [List.getD_eq_getElem?_getD, List.getElem?_eq_getElem (by omega)]; rfl
        have hsc := hid (fun L hL => split_c w7 b cs' ss' L hL h6 h7 _ hsep)
        have H67 := hid (And.intro h6 h7)
        clear h6 h7 hsep h5
        go_wp2_with fail
        refine (HN9.out.call hsc.out).mono ?_
        rintro e w8 ⟨r, rfl, HM⟩
        obtain ⟨b', HMa⟩ := HM.ex
        obtain ⟨rfl, HMb⟩ := HMa.fact
        have HMc := hid HMb
        clear HM HMa HMb hsc HN9 b0 hbl
        go_wp2
        go_ret2
        refine ⟨_, rfl, ?_⟩
        rw [HR2.out]
        unfold splT
        have hk6 : ks.length = 6 := by rw [Hkl.out]; exact H67.out.1
        rw [if_neg (by omega), hk6]
        refine Hld.some (.nd b') (Hld.also rfl ?_)
        have h := HMc.out.as1
        rw [← List.take_append_drop 3 ks] at h
        conv at h => arg 3; arg 2; arg 2; arg 1; rw [← List.take_append_drop 3 cs']
        have hl3 : (ks.take 3).length = (cs'.take 3).length := by have := H67.out.1; simp; omega
        have h' := h.ent ((((ent_emp1 _).trans (ent_app (trR d) _ _ _ _ hl3)).under _).under _)
        exact h'.ent ((((ent_swap _ _ _).under _).trans (ent_assoc2 _ _ _)).trans ((Ent.left (ent_tr1 _ _ _ _) _).trans ((ent_tr1 _ _ _ _).under _)))
end Go.Proofs.Ythofkkmnngmafaa
