/- The reader of the reference: Num, Text and the small ones. -/
import Derived.Test.YthofkkmnngmafaaR3
namespace Go.Proofs.Ythofkkmnngmafaa
set_option linter.unusedVariables false
set_option linter.unusedSimpArgs false
set_option linter.unusedSectionVars false
open Go.RowKit

/- The reference's reader: its small methods. -/
theorem rok_c (T : TypeId) (b : Nat) (st : Option ByteArray) (w : World) (h : Rd T w b st) :
    Calls Try.prog 43 #[.pointer (some ⟨b, 0, none⟩)] w fun e w' => e = .returned (.bool st.isSome) ∧ w = w' := by
  have h1 := h.1.cell 1
  cases st
  all_goals
    simp [rdL] at h1
    go_enter Try.func43, Try.ntmps43
    go_wp2
    go_ret
    exact ⟨rfl, rfl⟩

theorem rend_c (T : TypeId) (b : Nat) (st : Option ByteArray) (w : World) (h : Rd T w b st) :
    Calls Try.prog 45 #[.pointer (some ⟨b, 0, none⟩)] w fun e w' => e = .returned (.bool (st.isSome && (rdL st).toList.isEmpty)) ∧ w = w' := by
  have h0 := h.1.cell 0
  have h1 := h.1.cell 1
  cases st
  all_goals
    simp [rdL] at h0 h1
    go_enter Try.func45, Try.ntmps45
    go_wp2
    go_ret
    exact ⟨rfl, rfl⟩

theorem rfail_c (T : TypeId) (b : Nat) (st : Option ByteArray) (w : World) (h : Rd T w b st) :
    Calls Try.prog 64 #[.pointer (some ⟨b, 0, none⟩)] w fun e w' => e = .returned (.int .u64 0) ∧ Rd T w' b none ∧ Mod [b] w w' := by
  have h0 := h.1.cell 0
  have h1 := h.1.cell 1
  have f0 := h.1.free 0
  have f1 := h.1.free 1
  simp at h0 h1
  go_enter Try.func64, Try.ntmps64
  go_wp2
  go_ret
  exact ⟨rfl, ⟨(h.1.set 0 _).set 1 _, by decide⟩, ((Mod.refl _ _).setCell (by simp) _).setCell (by simp) _⟩

/- Num of the reference's reader. -/
theorem ref_sum (acc c m t : Nat) (hm : m < 10) (ht : t = 128 ^ m % 18446744073709551616) (hs : acc + c % 128 * 128 ^ m < 18446744073709551616) :
    IntKind.u64.wrap ((acc : Int) + IntKind.u64.wrap ((c : Int) % 128 * (t : Int))) = ((acc + c % 128 * 128 ^ m : Nat) : Int) := by
  have h2 : 128 ^ m ≤ 128 ^ 9 := Nat.pow_le_pow_right (by decide) (by omega)
  have h3 : (128 : Nat) ^ 9 = 9223372036854775808 := by decide
  rw [h3] at h2
  generalize 128 ^ m = p at *
  have e : t = p := by omega
  subst e
  rw [IntKind.wrap_u64, IntKind.wrap_u64, show (c : Int) % 128 * (t : Int) = ((c % 128 * t : Nat) : Int) by push_cast; rfl]
  generalize c % 128 * t = d at *
  omega

theorem ref_digit (acc c m t : Nat) (hm : m < 10) (ht : t = 128 ^ m % 18446744073709551616) (hc : c < 128) (hs : acc + c * 128 ^ m < 18446744073709551616) :
    IntKind.u64.wrap ((acc : Int) + IntKind.u64.wrap ((c : Int) % 128 * (t : Int))) = ((acc + c * 128 ^ m : Nat) : Int) := by
  have e : c % 128 = c := by omega
  have := ref_sum acc c m t hm ht (by rw [e]; exact hs)
  rw [e] at this; exact this

theorem ref_more (acc c m t : Nat) (hm : m < 10) (ht : t = 128 ^ m % 18446744073709551616) (hc : 128 ≤ c) (hc2 : c < 256) (hs : acc + (c - 128) * 128 ^ m < 18446744073709551616) :
    IntKind.u64.wrap ((acc : Int) + IntKind.u64.wrap ((c : Int) % 128 * (t : Int))) = ((acc + (c - 128) * 128 ^ m : Nat) : Int) := by
  have e : c % 128 = c - 128 := by omega
  have := ref_sum acc c m t hm ht (by rw [e]; exact hs)
  rw [e] at this; exact this

theorem times_next (m t : Nat) (ht : t = 128 ^ m % 18446744073709551616) : IntKind.u64.wrap ((t : Int) * 128) = ((128 ^ (m + 1) % 18446744073709551616 : Nat) : Int) := by
  subst ht
  rw [IntKind.wrap_u64, Nat.pow_succ]
  generalize 128 ^ m = p
  omega

theorem val_int {k : IntKind} {a b : Int} (h : a = b) : Value.int k a = .int k b := by rw [h]

set_option maxRecDepth 100000 in
set_option maxHeartbeats 2000000 in
theorem rnum_c (T : TypeId) (b : Nat) (st : Option ByteArray) (w : World) (h : Rd T w b st) :
    Calls Try.prog 41 #[.pointer (some ⟨b, 0, none⟩)] w (NumSays T w b st) := by
  obtain ⟨s, hs⟩ : ∃ s, s = rdL st := ⟨_, rfl⟩
  have hl := h.2
  have h0 := h.1.cell 0
  have f0 := h.1.free 0
  simp only [← hs] at h0 hl
  simp at h0
  have H := hid h
  have Hs := hid hs
  clear h hs
  go_enter Try.func41, Try.ntmps41
  go_wp2
  go_loopg [3, 4, 5] 10 (fun g a t i wr => ∃ m acc : Nat, w = wr ∧ m ≤ s.size ∧ m + g = 10 ∧ i = .int .i64 m ∧ a = .int .u64 acc ∧ t = .int .u64 (128 ^ m % 18446744073709551616 : Nat) ∧ Hid (acc < 128 ^ m) ∧ Hid (Wire.num? s.data.toList 0 0 = Wire.num? (s.data.toList.drop m) m acc))
  case atStart => exact ⟨0, 0, rfl, by omega, by omega, rfl, rfl, rfl, show 0 < 128 ^ 0 by decide, rfl⟩
  case round =>
    obtain ⟨m, acc, rfl, hm, hm2, rfl, rfl, rfl, hacc, hs⟩ := hrel
    obtain ⟨t, ht'⟩ : ∃ t : Nat, Hid (t = 128 ^ m % 18446744073709551616) := ⟨_, rfl⟩
    rw [← ht'.out]
    by_cases hlt : m < s.size ∧ m < 10
    · obtain ⟨hlt, ht⟩ := hlt
      obtain ⟨c, hget⟩ : ∃ c : UInt8, s[m]'hlt = c := ⟨_, rfl⟩
      have hodd' := num_odd s m acc hlt
      have hst' := num_step s m acc hlt ht
      rw [hget] at hodd' hst'
      have hc := c.toNat_lt
      have hodd := hid hodd'
      have hst := hid hst'
      clear hodd' hst'
      have hz : s = rdL (some s) := rfl
      have hst0 : Hid (st = some s) := by
        cases st with
        | none =>
          have : s = ⟨#[]⟩ := Hs.out
          subst this
          exact absurd hlt (Nat.not_lt_zero m)
        | some s' => exact congrArg some Hs.out.symm
      clear hz
      by_cases ho : ((0 < m ∧ c.toNat = 0) ∨ (m = 9 ∧ 1 < c.toNat))
      · have hno := hid (numOf_none (hs.out.trans (hodd.out ho)))
        go_wp2_with (first | (go_at_call 64; refine (rfail_c T _ _ _ H.out).mono ?_; rintro e w2 ⟨rfl, h2, hm2⟩))
        all_goals
          go_ret
          unfold NumSays
          rw [hst0.out, hno.out]
          exact ⟨rfl, h2, hm2⟩
      · have hfit := hid (fun h8 => digit_fits c.toNat m acc ht h8 ho hacc.out)
        have hfit2 := hid (fun h8 => more_fits c.toNat m acc ht h8 (by omega) ho hacc.out)
        by_cases h8 : c.toNat < 128
        · have hno := hid (numOf_some (hs.out.trans ((hst.out ho).trans (if_pos h8))))
          have hor := hid (ref_digit acc c.toNat m t ht ht'.out h8 (hfit.out h8))
          go_wp2_with (first | (go_at_call 64; refine (rfail_c T _ _ _ H.out).mono ?_; rintro e w2 ⟨rfl, h2, hm2⟩))
          any_goals (exfalso; simp at *; omega)
          all_goals
            go_ret
            unfold NumSays
            rw [hst0.out, hno.out]
            have HB := H.out.1
            rw [hst0.out] at HB
            first
            | exact ⟨ret_int hor.out, ⟨HB.set 0 _, by simp [rdL]; omega⟩, (Mod.refl _ _).setCell (by simp) _⟩
            | (obtain rfl : m = 9 := by omega
               exact ⟨ret_int hor.out, ⟨HB.set 0 _, by simp [rdL]; omega⟩, (Mod.refl _ _).setCell (by simp) _⟩)
        · have hor := hid (ref_more acc c.toNat m t ht ht'.out (by omega) (by omega) (hfit2.out (by omega)))
          have hml := hid (more_lt c.toNat m acc (by omega) (by omega) hacc.out)
          have hsn := hid (hs.out.trans ((hst.out ho).trans (if_neg h8)))
          have htn := hid (times_next m t ht'.out)
          go_wp2_with (first | (go_at_call 64; refine (rfail_c T _ _ _ H.out).mono ?_; rintro e w2 ⟨rfl, h2, hm2⟩))
          all_goals
            go_roundg (gk - 1)
            case measure => omega
            case rel => exact ⟨m + 1, _, rfl, by omega, by omega, by go_num, val_int hor.out, val_int htn.out, hml.out, hsn.out⟩
    · have hno : Hid (numOf st = (0, none)) := by
        cases st with
        | none => rfl
        | some s' =>
          have e : s = s' := Hs.out
          subst e
          refine numOf_none (hs.out.trans ?_)
          by_cases h1 : m < s.size
          · exact num_ten _ _ _ (by omega)
          · exact num_end _ _ _ (by omega)
      by_cases h1 : m < s.size
      · have hge : 10 ≤ m := by omega
        clear hlt
        go_wp2_with (first | (go_at_call 64; refine (rfail_c T _ _ _ H.out).mono ?_; rintro e w2 ⟨rfl, h2, hm2⟩))
        go_ret
        unfold NumSays
        rw [hno.out]
        exact ⟨rfl, h2, hm2⟩
      · have hge : s.size ≤ m := by omega
        clear hlt
        go_wp2_with (first | (go_at_call 64; refine (rfail_c T _ _ _ H.out).mono ?_; rintro e w2 ⟨rfl, h2, hm2⟩))
        go_ret
        unfold NumSays
        rw [hno.out]
        exact ⟨rfl, h2, hm2⟩

/- Text of the reference reader. -/
set_option maxRecDepth 100000 in
set_option maxHeartbeats 1000000 in
theorem rtext_c (T : TypeId) (b : Nat) (st : Option ByteArray) (w : World) (h : Rd T w b st) :
    Calls Try.prog 42 #[.pointer (some ⟨b, 0, none⟩)] w (TextSays T w b st) := by
  go_enter Try.func42, Try.ntmps42
  go_wp2_with fail
  refine (rnum_c T b st w h).mono ?_
  rintro e w1 ⟨rfl, h1, hm1⟩
  rcases hr : numOf st with ⟨n, r⟩
  rw [hr] at h1
  have Hr := hid hr
  clear hr
  cases r with
  | none =>
    have ht := hid (textOf_fail Hr.out)
    have hb := h1.1.cell 1
    simp [rdL] at hb
    go_wp2_with (first | (go_at_call 43; refine (rok_c T _ _ _ h1).mono ?_; rintro e w' ⟨rfl, rfl⟩) | (go_at_call 64; refine (rfail_c T _ _ _ h1).mono ?_; rintro e w2 ⟨rfl, h2, hm2⟩))
    go_ret
    unfold TextSays
    rw [ht.out]
    exact ⟨rfl, h2, hm1.tr hm2⟩
  | some r =>
    have hsz := rd_size h1
    have h0 := h1.1.cell 0
    have f0 := h1.1.free 0
    have hb := h1.1.cell 1
    simp [rdL] at h0 hb
    have H := hid h1
    clear h1
    by_cases hn : n ≤ r.size
    · have ht := hid (textOf_text Hr.out hn)
      go_wp2_with (first | (go_at_call 43; refine (rok_c T _ _ _ H.out).mono ?_; rintro e w' ⟨rfl, rfl⟩) | (go_at_call 64; refine (rfail_c T _ _ _ H.out).mono ?_; rintro e w2 ⟨rfl, h2, hm2⟩))
      go_ret
      unfold TextSays
      rw [ht.out]
      exact ⟨rfl, ⟨H.out.1.set 0 _, by simp [rdL]; omega⟩, hm1.setCell (by simp) _⟩
    · have ht := hid (textOf_long Hr.out hn)
      go_wp2_with (first | (go_at_call 43; refine (rok_c T _ _ _ H.out).mono ?_; rintro e w' ⟨rfl, rfl⟩) | (go_at_call 64; refine (rfail_c T _ _ _ H.out).mono ?_; rintro e w2 ⟨rfl, h2, hm2⟩))
      go_ret
      unfold TextSays
      rw [ht.out]
      exact ⟨rfl, h2, hm1.tr hm2⟩
end Go.Proofs.Ythofkkmnngmafaa
