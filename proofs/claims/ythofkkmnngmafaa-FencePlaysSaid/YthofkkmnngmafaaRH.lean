/- do: the walk. -/
import Derived.Test.YthofkkmnngmafaaRX
namespace Go.Proofs.Ythofkkmnngmafaa
set_option linter.unusedVariables false
set_option linter.unusedSimpArgs false
set_option linter.unusedSectionVars false
open Go.RowKit

theorem Fok.put {f : Fc} {l : List Lf} (h : Fok f) (hl : f.lv = l) (sep : ByteArray) (pid : Nat) : (insFF f sep pid).lv = insLL l sep pid := by rw [h.ins_lv, hl]
theorem Fok.cut {f : Fc} {l : List Lf} (h : Fok f) (hl : f.lv = l) (sep : ByteArray) : (remFF f sep).lv = remLL l sep := by rw [h.rem_lv, hl]
theorem rfind_hm {w0 w : World} {L0 : List Nat} {rb : Nat} {l : List Lf} {U : Res} (h : Hld w0 L0 (star (rfR rb l) U) w) (hok : OkL l) (k : ByteArray) :
    Calls Try.prog 53 #[.pointer (some ⟨rb, 0, none⟩), .string k] w fun e w' => e = .returned (.int .u64 (findL l k : Nat)) ∧ w = w' := by
  obtain ⟨g, cap, hat, _⟩ := hld_rf h hok.pos
  exact rfind_c w rb l g cap k hat hok
set_option maxRecDepth 100000 in
set_option maxHeartbeats 8000000 in
theorem do_c (w0 : World) (L0 : List Nat) (w : World) (fb rb : Nat) (f : Fc) (l : List Lf) (x : Ac) (U : Res) [Keep U] (h : Hld w0 L0 (star (feR fb f) (star (rfR rb l) U)) w) (hf : Fok f) (hl : f.lv = l) (hx : x.Ok) :
    Calls Try.prog 27 #[.pointer (some ⟨fb, 0, none⟩), .pointer (some ⟨rb, 0, none⟩), .agg #[.int .i64 x.what, .string x.key, .int .u8 (x.pid : Nat)]] w fun e w' => ∃ f' l', e = .returned (.bool true) ∧ Fok f' ∧ f'.lv = l' ∧ Hld w0 L0 (star (feR fb f') (star (rfR rb l') U)) w' := by
  have HF := hid hf
  have HOK : Hid (OkL l) := by show OkL l; rw [← hl]; exact hf.ok
  have HL := hid hl
  obtain ⟨o1, o2, o3, o4⟩ := hx
  have HB := hid (h.box #[.int .i64 x.what, .string x.key, .int .u8 (x.pid : Nat)] 28)
  obtain ⟨xb, hxb⟩ : ∃ xb, xb = w.heap.size := ⟨_, rfl⟩
  rw [← hxb] at HB
  have HXB := hid hxb
  clear h hf hl hxb
  go_enter Try.func27, Try.ntmps27
  go_upto_region 2 with (fail)
  obtain ⟨key, hkey⟩ : ∃ key, key = x.key.extract 0 (min (x.key.size : Int) 20).toNat := ⟨_, rfl⟩
  rw [← hkey]
  have hkz : key.size ≤ 20 := by rw [hkey, ByteArray.size_extract]; omega
  obtain ⟨W, hW⟩ : ∃ W, W = w.alloc (.cells #[.int .i64 x.what, .string x.key, .int .u8 (x.pid : Nat)] 28) := ⟨_, rfl⟩
  rw [← hW, ← HXB.out]
  rw [← hW] at HB
  obtain ⟨t, ht⟩ : ∃ t, t = x.what := ⟨_, rfl⟩
  obtain ⟨pid, hpid⟩ : ∃ pid, pid = x.pid := ⟨_, rfl⟩
  obtain ⟨xk, hxk⟩ : ∃ xk, xk = x.key := ⟨_, rfl⟩
  rw [← ht] at o1 o2 HB ⊢
  rw [← hpid] at o4 HB ⊢
  rw [← hxk] at HB ⊢
  have hxs : xk.size ≤ 9223372036854775807 := by rw [hxk]; exact o3
  have b0 := HB.out.get.cell 0
  have b2 := HB.out.get.cell 2
  have hbl := HB.out.get.lt
  simp only [List.getElem?_toArray, List.getElem?_cons_zero, List.getElem?_cons_succ] at b0 b2
  clear hkey hW HXB ht hpid hxk o3
  have hor : (t = 0 ∨ t = 1 ∨ t = 2 ∨ t = 3) ∨ t = 4 ∨ t = 5 ∨ (t ≠ 0 ∧ t ≠ 1 ∧ t ≠ 2 ∧ t ≠ 3 ∧ t ≠ 4 ∧ t ≠ 5) := by omega
  rcases hor with hor | rfl | rfl | ⟨n0, n1, n2, n3, n4, n5⟩
  · rcases hor with rfl | rfl | rfl | rfl
    all_goals
      have b2d : W.drew.cell? ⟨xb, 2, none⟩ = some (.int .u8 (pid : Nat)) := b2
      have hins := ins_h (HB.out.drew.swap) HF.out key pid (by omega)
      rw [HL.out] at hins
      have hins := hid hins
      have hu : IntKind.u64.wrap (pid : Int) = (pid : Int) := by rw [IntKind.wrap_u64]; omega
      go_upto_region 7 with (fail)
      go_region_held3 (fun X => X.cell? ⟨xb, 2, none⟩ = some (.int .u8 (pid : Nat)))
        (first
          | exact b2d
          | assumption
          | (have hh := hn.drop.drop.get.cell 2; simpa using hh)
          | (have hh := hm.drop.get.cell 2; simpa using hh)
          | fail)
        (first
          | (go_at_call 12; with_reducible refine hins.out.mono ?_; rintro e w' ⟨rfl, hm⟩)
          | (go_at_call 44; refine (rins_c w0 L0 _ rb l key pid _ (hm.ent (ent_pull3 _ _ _ _)) HOK.out (by omega)).mono ?_; rintro e w'' ⟨rfl, hn⟩)
          | fail)
      have hn := hid (hn.ent ((((ent_drop _ _).under _).under _).trans (ent_swap _ _ _)))
      go_wp2
      go_ret
      exact ⟨_, _, rfl, HF.out.ins key (by omega), HF.out.put HL.out key pid, hn.out⟩
  · have hrem := rem_h HB.out.swap HF.out key
    rw [HL.out] at hrem
    go_wp2_with fail
    refine hrem.mono ?_
    rintro e w1 ⟨rfl, H1⟩
    have H1 := hid (H1.ent (ent_pull3 _ _ _ _))
    clear hrem
    go_wp2_with fail
    refine (rrem_c w0 L0 w1 rb l key _ H1.out HOK.out).mono ?_
    rintro e w2 ⟨rfl, H2⟩
    have hn := hid (H2.ent ((((ent_drop _ _).under _).under _).trans (ent_swap _ _ _)))
    clear H1 H2
    go_wp2
    go_ret
    exact ⟨_, _, rfl, HF.out.rem key, HF.out.cut HL.out key, hn.out⟩
  · go_wp2_with fail
    refine (rseps_c w0 L0 W rb l _ (HB.out.ent (ent_pull3 _ _ _ _)) HOK.out).mono ?_
    rintro e w1 ⟨v, rfl, H1⟩
    have hsl : (sepsL l).length ≤ 1000 := by have := HOK.out.len; simp; omega
    obtain ⟨SS, hSS⟩ : ∃ SS, SS = sepsL l := ⟨_, rfl⟩
    rw [← hSS] at H1 hsl
    have hX := row_lxS H1
    have K1 := hid (H1.ent (((ent_drop _ _).trans (ent_pull3 _ _ _ _)).trans (ent_swap _ _ _)))
    clear H1
    have b2 := K1.out.drop.drop.get.cell 2
    have hbl := K1.out.drop.drop.get.lt
    simp only [List.getElem?_toArray, List.getElem?_cons_zero, List.getElem?_cons_succ] at b2
    have HX2 := hid hX
    obtain ⟨pv, cv, rfl, _, _⟩ := hX
    clear hSS b0
    rcases Nat.eq_zero_or_pos SS.length with hz | hz
    case' inl =>
      have hz0 : ¬ (0 : Int) < (SS.length : Int) := by omega
      obtain ⟨key2, hk2⟩ : ∃ key2, key2 = key := ⟨_, rfl⟩
      rw [← hk2]
      rw [← hk2] at hkz
      clear hz hk2
    case' inr =>
      have hz0 : (0 : Int) < (SS.length : Int) := by omega
      have hm := Nat.mod_lt pid hz
      obtain ⟨m, hmm⟩ : ∃ m, m = pid % SS.length := ⟨_, rfl⟩
      rw [← hmm] at hm
      obtain ⟨key2, hy⟩ : ∃ y, SS[m]? = some y := ⟨_, List.getElem?_eq_getElem hm⟩
      obtain ⟨bs, os, rfl, d0⟩ := HX2.out.cell1 (u := fun s => .string s) (fun _ => rfl) hy
      have htm : Int.tmod (pid : Int) (SS.length : Int) = (m : Int) := by rw [hmm]; rfl
      have hw1 : IntKind.i64.wrap (pid : Int) = (pid : Int) := IntWalk.i64_in _ ⟨by omega, by omega⟩
      have hw2 : IntKind.i64.wrap (m : Int) = (m : Int) := IntWalk.i64_in _ ⟨by omega, by omega⟩
      have hm1 : (m : Int) < (SS.length : Int) := by omega
      have hm0 : (0 : Int) ≤ (m : Int) := by omega
      clear hmm hy
    all_goals
      have hrem := rem_h K1.out.swap HF.out key2
      rw [HL.out] at hrem
      go_wp2_with fail
      with_reducible refine hrem.mono ?_
      rintro e w2 ⟨rfl, H2⟩
      have H2 := hid H2.swap
      clear hrem K1
      go_wp2_with fail
      refine (rrem_c w0 L0 w2 rb l key2 _ H2.out HOK.out).mono ?_
      rintro e w3 ⟨rfl, H3⟩
      have hn := hid (H3.ent ((((ent_drop _ _).under _).under _).trans (ent_swap _ _ _)))
      clear H2 H3
      go_wp2
      go_ret
      exact ⟨_, _, rfl, HF.out.rem key2, HF.out.cut HL.out key2, hn.out⟩
  · have e0 : (t == 0) = false := beq_eq_false_iff_ne.2 n0
    have e1 : (t == 1) = false := beq_eq_false_iff_ne.2 n1
    have e2 : (t == 2) = false := beq_eq_false_iff_ne.2 n2
    have e3 : (t == 3) = false := beq_eq_false_iff_ne.2 n3
    have e4 : (t == 4) = false := beq_eq_false_iff_ne.2 n4
    have e5 : (t == 5) = false := beq_eq_false_iff_ne.2 n5
    have hfi := find_hw HB.out.swap HF.out key
    rw [HL.out] at hfi
    go_wp2_with fail
    refine hfi.mono ?_
    rintro e w1 ⟨rfl, hm⟩
    have H1 := hid (HB.out.mod hm)
    clear hfi
    go_wp2_with fail
    refine (rfind_hm (H1.out.ent (ent_pull3 _ _ _ _)) HOK.out key).mono ?_
    rintro e w2 ⟨rfl, rfl⟩
    go_wp2
    go_ret
    exact ⟨_, _, rfl, HF.out, HL.out, H1.out.drop⟩
end Go.Proofs.Ythofkkmnngmafaa
