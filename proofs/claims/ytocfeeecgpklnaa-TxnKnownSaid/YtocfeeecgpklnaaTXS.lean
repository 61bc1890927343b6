/- Wrote, and Ops. -/
import Derived.Test.YtocfeeecgpklnaaTXR
namespace Go.Proofs.Ytocfeeecgpklnaa
set_option linter.unusedVariables false
set_option linter.unusedSimpArgs false
set_option linter.unusedSectionVars false
open Go.RowKit Go.Shelf

section
variable (w : World) (b p q : Nat) (t : Tx) (r : Rc) (L : List Nat)
set_option maxRecDepth 100000 in
theorem ask_wmay (hq : Blk w q (rcA r) 32) : AskE w (.func (.func 42) #[] #[.pointer (some ⟨q, 0, none⟩)]) (mayE r) := by
  refine ⟨_, _, _, rfl, enters_of Try.func42 (by kernel_rfl) rfl, fun W hW => ?_⟩
  have hQ := hW.blk hq (by simp)
  have q0 : W.cell? ⟨q, 0, none⟩ = some (.string r.key) := hQ.cell 0
  have q1 : W.cell? ⟨q, 1, none⟩ = some (.int .u64 r.ln) := hQ.cell 1
  have q2 : W.cell? ⟨q, 2, none⟩ = some (.bool r.dl) := hQ.cell 2
  have q3 : W.cell? ⟨q, 3, none⟩ = some (.string r.vl) := hQ.cell 3
  have hql := hQ.lt
  clear hQ hq
  show Calls Try.prog _ #[_] _ _
  go_enter Try.func42, Try.ntmps42
  go_wp2_with (go_at_call 43; refine (may_c _ r).mono ?_; rintro e w' ⟨rfl, hm⟩; have Hm := hid hm; clear hm)
  go_ret
  exact ⟨rfl, Hm.out⟩

set_option maxRecDepth 100000 in
theorem ask_wroom (h : txR b t w L) (hs : Kr t.ops) (hl : t.ops.length ≤ 1000) (hp : Blk w p #[.pointer (some ⟨b, 0, none⟩)] 25) (hq : Blk w q (rcA r) 32) : AskE w (.func (.func 44) #[] #[.pointer (some ⟨p, 0, none⟩), .pointer (some ⟨q, 0, none⟩)]) (roomE t.ops r.key) := by
  refine ⟨_, _, _, rfl, enters_of Try.func44 (by kernel_rfl) rfl, fun W hW => ?_⟩
  have hR := hid (room_c W b t r.key L (Keep.mod h hW (by simp)) hs hl)
  have hP := hW.blk hp (by simp)
  have hQ := hW.blk hq (by simp)
  have p0 : W.cell? ⟨p, 0, none⟩ = some (.pointer (some ⟨b, 0, none⟩)) := hP.cell 0
  have q0 : W.cell? ⟨q, 0, none⟩ = some (.string r.key) := hQ.cell 0
  have hpl := hP.lt
  have hql := hQ.lt
  clear h hp hq hP hQ
  show Calls Try.prog _ #[_, _] _ _
  go_enter Try.func44, Try.ntmps44
  go_wp2_with (go_at_call 36; refine hR.out.mono ?_; rintro e w' ⟨rfl, hm⟩; have Hm := hid hm; clear hm)
  go_ret
  exact ⟨rfl, Hm.out⟩
end

theorem wroteE_first (t : Tx) (r : Rc) : firstL [liveE t, mayE r, roomE t.ops r.key] = wroteE t r := by
  unfold wroteE liveE
  cases overB t
  · by_cases h : mayE r = 0
    · simp only [firstL, h]; simp; exact fun h => h.symm
    · simp only [firstL]; simp [h]
  · simp [firstL]

theorem flat_set4 {l : List Rc} {i : Nat} {x : Rc} (y : Rc) (hx : l[i]? = some x) : flat rcC (l.set i y) = ((((flat rcC l).set (i * 4) (.string y.key)).set (i * 4 + 1) (.int .u64 y.ln)).set (i * 4 + 2) (.bool y.dl)).set (i * 4 + 3) (.string y.vl) := by
  have hi : i < l.length := (List.getElem?_eq_some_iff.1 hx).1
  have h1 := flat_set rc_lays l i x { x with key := y.key } 0 (.string y.key) hx (by decide) rfl
  have h2 := flat_set rc_lays (l.set i { x with key := y.key }) i { x with key := y.key } { x with key := y.key, ln := y.ln } 1 (.int .u64 y.ln) (by simp [hi]) (by decide) rfl
  have h3 := flat_set rc_lays ((l.set i { x with key := y.key }).set i { x with key := y.key, ln := y.ln }) i { x with key := y.key, ln := y.ln } { x with key := y.key, ln := y.ln, dl := y.dl } 2 (.bool y.dl) (by simp [hi]) (by decide) rfl
  have h4 := flat_set rc_lays (((l.set i { x with key := y.key }).set i { x with key := y.key, ln := y.ln }).set i { x with key := y.key, ln := y.ln, dl := y.dl }) i { x with key := y.key, ln := y.ln, dl := y.dl } y 3 (.string y.vl) (by simp [hi]) (by decide) rfl
  rw [h3, h2, h1] at h4
  simp only [List.set_set, Nat.add_zero] at h4
  exact h4

set_option maxRecDepth 100000 in
set_option maxHeartbeats 4000000 in
theorem wrote_c (w : World) (b : Nat) (t : Tx) (r : Rc) (L : List Nat) (h : txR b t w L) (hs : Kr t.ops) (hl : t.ops.length ≤ 1000) :
    Calls Try.prog 16 #[.pointer (some ⟨b, 0, none⟩), rcV r] w (Says w L (.int .i64 (wroteE t r)) (txR b (wroteT t r))) := by
  have hM := ((Mod.refl [] w).alloc (.cells #[.pointer (some ⟨b, 0, none⟩)] 25)).alloc (.cells (rcA r) 32)
  have hP := (Blk.new w #[.pointer (some ⟨b, 0, none⟩)] 25).alloc (.cells (rcA r) 32)
  have hQ := Blk.new (w.alloc (.cells #[.pointer (some ⟨b, 0, none⟩)] 25)) (rcA r) 32
  rw [World.size_alloc] at hQ
  have hT := Keep.mod h hM (by simp)
  have HT := hid hT
  have HM := hid hM
  have HP := hid hP
  have HQ := hid hQ
  have Hs := hid hs
  have hLl := hid (Keep.lt h)
  clear h hT hM hP hQ hs
  go_enter Try.func16, Try.ntmps16
  go_upto_region 1 with (fail)
  generalize (w.alloc (.cells #[.pointer (some ⟨b, 0, none⟩)] 25)).alloc (.cells (rcA r) 32) = W at *
  generalize hp : w.heap.size = p at *
  have Hp := hid hp
  have p0 : W.cell? ⟨p, 0, none⟩ = some (.pointer (some ⟨b, 0, none⟩)) := HP.out.cell 0
  have hpl := HP.out.lt
  clear hp
  have hF : Hid (Calls Try.prog 37 #[.slice (some ⟨W.heap.size, 0, none⟩) 3 3] (W.alloc (.cells #[.func (.func 38) #[.pointer (some ⟨b, 0, none⟩)] #[], .func (.func 42) #[] #[.pointer (some ⟨p + 1, 0, none⟩)], .func (.func 44) #[] #[.pointer (some ⟨p, 0, none⟩), .pointer (some ⟨p + 1, 0, none⟩)]] 73)) fun e w' => e = .returned (.int .i64 (wroteE t r)) ∧ Mod [] W w') := by
    show Calls _ _ _ _ _
    rw [← wroteE_first]
    refine asks_c W _ 3 [_, _, _] [liveE t, mayE r, roomE t.ops r.key] rfl rfl (by omega) ?_
    intro i v z h h'
    rcases i with _ | _ | _ | i
    · simp at h h'; subst h h'; exact ask_live W b t L HT.out
    · simp at h h'; subst h h'; exact ask_wmay W (p + 1) r HQ.out
    · simp at h h'; subst h h'; exact ask_wroom W b p (p + 1) t r L HT.out Hs.out hl HP.out HQ.out
    · simp at h
  go_wp2_with fail
  refine hF.out.mono ?_
  rintro e w1 ⟨rfl, hm1⟩
  have HT1 := hid (Keep.mod HT.out hm1 (by simp))
  have hP1 := hm1.blk HP.out (by simp)
  have hQ1 := hm1.blk HQ.out (by simp)
  have HM1 := hid (HM.out.tr hm1)
  have p1 : w1.cell? ⟨p, 0, none⟩ = some (.pointer (some ⟨b, 0, none⟩)) := hP1.cell 0
  have q0 : w1.cell? ⟨p + 1, 0, none⟩ = some (.string r.key) := hQ1.cell 0
  have q1 : w1.cell? ⟨p + 1, 1, none⟩ = some (.int .u64 r.ln) := hQ1.cell 1
  have q2 : w1.cell? ⟨p + 1, 2, none⟩ = some (.bool r.dl) := hQ1.cell 2
  have q3 : w1.cell? ⟨p + 1, 3, none⟩ = some (.string r.vl) := hQ1.cell 3
  have f1 := hQ1.free 1
  have hpl1 := hP1.lt
  have hql1 := hQ1.lt
  have HQ1 := hid hQ1
  have HP1 := hid hP1
  clear hm1 hP1 hQ1 hF HP HQ HT p0 hpl
  by_cases hE : wroteE t r = 0
  · have HcT : Hid (wroteT t r = { t with ops := putO t.ops { r with ln := 0 } }) := by show _ = _; unfold wroteT; rw [if_pos hE]
    rw [hE]
    have HE := hid hE
    clear hE
    have hS : Hid (Blk (w1.setCell ⟨p + 1, 1, none⟩ (.int .u64 0)) (p + 1) (rcA { r with ln := 0 }) 32) := HQ1.out.set 1 _
    have hMS := (Mod.refl [p + 1] w1).setCell (p := ⟨p + 1, 1, none⟩) (by simp) (.int .u64 0)
    have hT2 := Keep.mod HT1.out hMS (fun k hk => by simp; have := hLl.out k hk; have := Hp.out; omega)
    have hP2 := hMS.blk HP1.out (by simp)
    have HM2 := hid (HM1.out.trans hMS (m := []) (by simp) (by intro x hx hlt; simp at hx; have := Hp.out; omega))
    go_upto_region 7 with (fail)
    clear q0 q1 q2 q3 f1 p1 hpl1 hql1 hMS HP1 HQ1 HT1 HM1
    generalize w1.setCell ⟨p + 1, 1, none⟩ (.int .u64 0) = w2 at *
    have HT2 := hid hT2
    have p1 : w2.cell? ⟨p, 0, none⟩ = some (.pointer (some ⟨b, 0, none⟩)) := hP2.cell 0
    have q0 : w2.cell? ⟨p + 1, 0, none⟩ = some (.string r.key) := hS.out.cell 0
    have hpl1 := hP2.lt
    have hql1 := hS.out.lt
    have HP2 := hid hP2
    clear hT2 hP2
    go_wp2_with fail
    refine (place_c w2 b t r.key L HT2.out Hs.out hl).mono ?_
    rintro e w3 ⟨i, q, rfl, hi, hq, hm⟩
    have hP3 := hm.blk HP2.out (by simp)
    have hQ3 := hm.blk hS.out (by simp)
    have HT3 := hid (Keep.mod HT2.out hm (by simp))
    have HM3 := hid (HM2.out.tr hm)
    have p1' : w3.cell? ⟨p, 0, none⟩ = some (.pointer (some ⟨b, 0, none⟩)) := hP3.cell 0
    have q0' : w3.cell? ⟨p + 1, 0, none⟩ = some (.string r.key) := hQ3.cell 0
    have q1 : w3.cell? ⟨p + 1, 1, none⟩ = some (.int .u64 0) := hQ3.cell 1
    have q2 : w3.cell? ⟨p + 1, 2, none⟩ = some (.bool r.dl) := hQ3.cell 2
    have q3 : w3.cell? ⟨p + 1, 3, none⟩ = some (.string r.vl) := hQ3.cell 3
    have hpl3 := hP3.lt
    have hql3 := hQ3.lt
    have hqh := hid (kb_has Hs.out hi hq)
    have Hi := hid hi
    have Hq := hid hq
    clear hi hq hm p1 q0 hpl1 hql1 hS HP2 HT2 HM2
    have HTX := HT3.out
    obtain ⟨v, M, hb, ho, hbM, rfl⟩ := HTX
    have b11 : w3.cell? ⟨b, 11, none⟩ = some v := hb.cell 11
    have hbl := hb.lt
    have HB := hid hb
    have HO := hid ho
    clear hb
    have hbp : b < p := hLl.out b (by simp)
    cases q
    · have hil : i ≤ t.ops.length := Hi.out.1
      have Hins : Hid (t.ops.take i ++ { r with ln := 0 } :: t.ops.drop i = putO t.ops { r with ln := 0 }) := put_ins Hs.out (r := { r with ln := 0 }) Hi.out hqh.out.symm
      obtain ⟨a, cap, rfl, hnc, hcap, hg⟩ := ho.val
      clear ho hg
      have hxs : Hid (∀ X, Mod [] w3 X → X.cell? ⟨b, 11, none⟩ = some (.slice a t.ops.length cap) ∧ X.cell? ⟨p, 0, none⟩ = some (.pointer (some ⟨b, 0, none⟩)) ∧ X.cell? ⟨p + 1, 0, none⟩ = some (.string r.key) ∧ X.cell? ⟨p + 1, 1, none⟩ = some (.int .u64 0) ∧ X.cell? ⟨p + 1, 2, none⟩ = some (.bool r.dl) ∧ X.cell? ⟨p + 1, 3, none⟩ = some (.string r.vl)) := fun X hX =>
        ⟨(hX.blk HB.out (by simp)).cell 11, (hX.blk hP3 (by simp)).cell 0, (hX.blk hQ3 (by simp)).cell 0, (hX.blk hQ3 (by simp)).cell 1, (hX.blk hQ3 (by simp)).cell 2, (hX.blk hQ3 (by simp)).cell 3⟩
      have hS0 := hxs.out _ (Mod.refl [] w3).drew
      clear b11 p1' q0' q1 q2 q3
      obtain ⟨X0, hX0⟩ : ∃ X0, X0 = (w3.alloc (.cells #[.string r.key, .int .u64 0, .bool r.dl, .string r.vl] 32)).drew := ⟨_, rfl⟩
      have hm0 : Mod [] w3 X0 := by rw [hX0]; exact ((Mod.refl [] w3).alloc _).drew
      have hbx : Blk X0 w3.heap.size (rcC { r with ln := 0 }).toArray 32 := by rw [hX0]; exact (Blk.new w3 _ _).drew
      have hMc : ∀ k ∈ M, k < w3.heap.size := fun k hk => by have := HO.out.lt k hk; exact this
      have hI := hid (ins_c X0 _ t.ops i { r with ln := 0 } w3.heap.size M (HO.out.mod hm0 (by simp)) hil (by omega) hbx (fun hk => by have := hMc _ hk; omega))
      rw [Hins.out] at hI
      clear Hins
      have hpM : p ∉ M := fun hk => by have := hLl.out p (by simp [hk]); omega
      have hf1 : Hid (∀ X, Mod M X0 X → X.frozen? ⟨b, 11, none⟩ = false ∧ b < X.heap.size ∧ X.cell? ⟨b, 11, none⟩ = some (.slice a t.ops.length cap) ∧ X.cell? ⟨p, 0, none⟩ = some (.pointer (some ⟨b, 0, none⟩)) ∧ p < X.heap.size) := fun X hX => ⟨(hX.blk (hm0.blk HB.out (by simp)) hbM).free 11, (hX.blk (hm0.blk HB.out (by simp)) hbM).lt, (hX.blk (hm0.blk HB.out (by simp)) hbM).cell 11, (hX.blk (hm0.blk hP3 (by simp)) hpM).cell 0, (hX.blk (hm0.blk hP3 (by simp)) hpM).lt⟩
      have HX0 := hid hX0
      have Hm0 := hid hm0
      clear hX0 hm0 hbx hMc hP3 hQ3
      go_upto_region 10 with (fail)
      obtain ⟨b11, p1', q0', q1, q2, q3⟩ := hxs.out _ (Mod.refl [] w3)
      clear hxs hS0
      go_region_law (first
          | (go_simp; go_at_call 46; rw [← HX0.out]; (refine hI.out.mono ?_); rintro e w4 ⟨v2, M2, rfl, ho2, hm2, hf2⟩; replace hm2 := hid hm2; have Ho2 := hid ho2; have Hf2 := hid hf2; clear ho2 hf2; obtain ⟨hfr, hblt2, hb11, hp12, hplt2⟩ := hf1.out _ hm2.out; obtain ⟨a2, c2, rfl, hv2⟩ := Own.val Ho2.out; clear hv2)
          | fail)
      all_goals
        go_wp2
        go_ret
        have hmw : Mod M w w4 := (((HM3.out.tr Hm0.out).mono (by simp)).tr hm2.out)
        have hbM2 : b ∉ M2 := fun hk => by
          rcases Hf2.out b hk with h | h
          · exact hbM h
          · have h1 := Hm0.out.size; have h2 := HM3.out.size; have h3 := Hp.out; omega
        refine ⟨by rw [HE.out]; rfl, b :: M2, ?_, (hmw.mono (fun k hk _ => List.mem_cons_of_mem _ hk)).setCell (Or.inl (by simp)) _, ?_⟩
        · rw [HcT.out]
          exact ⟨_, M2, (hm2.out.blk (Hm0.out.blk HB.out (by simp)) hbM).set 11 _, Ho2.out.mod (M := [b]) ((Mod.refl [b] w4).setCell (by simp) _) (fun k hk => by simp; intro hkb; exact hbM2 (hkb ▸ hk)), hbM2, rfl⟩
        · intro k hk
          rcases List.mem_cons.1 hk with rfl | hk
          · exact Or.inl (by simp)
          · rcases Hf2.out k hk with h | h
            · exact Or.inl (by simp [h])
            · right; have h1 := Hm0.out.size; have h2 := HM3.out.size; omega
    · obtain ⟨x, hx, hk⟩ := Hq.out.1 rfl
      have hil : i < t.ops.length := (List.getElem?_eq_some_iff.1 hx).1
      have Hins : Hid (t.ops.set i { r with ln := 0 } = putO t.ops { r with ln := 0 }) := put_set Hs.out (r := { r with ln := 0 }) Hi.out hx hk
      obtain ⟨a, cap, rfl, hnc, hcap, hg⟩ := ho.val
      obtain ⟨g, rfl, rfl, hcs⟩ := hg (by omega)
      have hbg : b ≠ g := by simpa using hbM
      obtain ⟨_, ⟨cur, hcur⟩, _, _⟩ := HO.out.blk
      have g0 : w3.cell? ⟨g, i * 4, none⟩ = some (.string x.key) := (hcs (i * 4) (by omega)).trans (flat_at rc_lays t.ops i x hx 0 (by decide))
      have g1 : w3.cell? ⟨g, i * 4 + 1, none⟩ = some (.int .u64 x.ln) := (hcs (i * 4 + 1) (by omega)).trans (flat_at rc_lays t.ops i x hx 1 (by decide))
      have g2 : w3.cell? ⟨g, i * 4 + 2, none⟩ = some (.bool x.dl) := (hcs (i * 4 + 2) (by omega)).trans (flat_at rc_lays t.ops i x hx 2 (by decide))
      have g3 : w3.cell? ⟨g, i * 4 + 3, none⟩ = some (.string x.vl) := (hcs (i * 4 + 3) (by omega)).trans (flat_at rc_lays t.ops i x hx 3 (by decide))
      have f0 := hcur.free (i * 4)
      have f1 := hcur.free (i * 4 + 1)
      have f2 := hcur.free (i * 4 + 2)
      have f3 := hcur.free (i * 4 + 3)
      have hgl := hcur.lt
      have hi1 : (i : Int) < (t.ops.length : Int) := by omega
      have hi0 : (0 : Int) ≤ (i : Int) := by omega
      have Hx := hid hx
      clear ho hg hcs hcur hx hk Hq Hi hP3 hQ3
      go_upto_region 9 with (fail)
      go_region
      all_goals
        go_wp2
        go_ret
        refine ⟨by rw [HE.out]; rfl, [b, g], ?_, ?_, fun k hk => Or.inl hk⟩
        · rw [HcT.out]
          refine ⟨.slice (some ⟨g, 0, none⟩) t.ops.length cap, [g], ?_, ?_, by simpa using hbg, rfl⟩
          · exact ((((HB.out.other (by simpa using hbg) _).other (by simpa using hbg) _).other (by simpa using hbg) _).other (by simpa using hbg) _).drew
          · show Own _ _ _ _ (putO t.ops { r with ln := 0 }).length (flat rcC (putO t.ops { r with ln := 0 })) _
            rw [← Hins.out, flat_set4 _ Hx.out, List.length_set]
            exact ((((HO.out.set (i * 4) (by omega) _).set (i * 4 + 1) (by omega) _).set (i * 4 + 2) (by omega) _).set (i * 4 + 3) (by omega) _).mod (Mod.refl [] _).drew (by simp)
        · exact (((((HM3.out.mono (by simp)).setCell (Or.inl (by simp)) _).setCell (Or.inl (by simp)) _).setCell (Or.inl (by simp)) _).setCell (Or.inl (by simp)) _).drew
  · have HcT : Hid (wroteT t r = t) := by show _ = _; unfold wroteT; rw [if_neg hE]
    have hE2 : (wroteE t r != 0) = true := bne_iff_ne.2 hE
    clear hE
    go_wp2
    go_ret
    refine ⟨rfl, L, ?_, HM1.out.mono (by simp), fun k hk => Or.inl hk⟩
    rw [HcT.out]
    exact HT1.out
end Go.Proofs.Ytocfeeecgpklnaa
