/- Num of wire's reader. -/
import Derived.Test.YthofkkmnngmafaaR1
namespace Go.Proofs.Ythofkkmnngmafaa
open Go.RowKit

theorem odd_any (i : Nat) (c : UInt8) (w : World) (hi : i < 10) (B : Bool) (hB : Hid (B = decide ((0 < i ∧ c.toNat = 0) ∨ (i = 9 ∧ 1 < c.toNat)))) :
    Calls Try.prog 62 #[.int .i64 i, .int .u8 c.toNat] w fun e w' => e = .returned (.bool B) ∧ w = w' := by
  have hc := c.toNat_lt
  go_enter Try.func62, Try.ntmps62
  go_wp2
  all_goals go_ret
  all_goals refine ⟨ret_bool ?_, rfl⟩
  all_goals rw [hB.out]
  all_goals (rw [Bool.eq_iff_iff]; simp; omega)

theorem numOf_some {s : ByteArray} {n k : Nat} (h : Wire.num? s.data.toList 0 0 = some (n, k)) : numOf (some s) = (n, some (s.extract k s.size)) := by simp [numOf, h]
theorem numOf_none {s : ByteArray} (h : Wire.num? s.data.toList 0 0 = none) : numOf (some s) = (0, none) := by simp [numOf, h]

def NumSays (T : TypeId) (w : World) (b : Nat) (st : Option ByteArray) (e : Ending) (w' : World) : Prop :=
  e = .returned (.int .u64 (numOf st).1) ∧ Rd T w' b (numOf st).2 ∧ Mod [b] w w'

theorem rd_size {T : TypeId} {w : World} {b : Nat} {s : ByteArray} (h : Rd T w b (some s)) : s.size ≤ 9223372036854775807 := h.2

set_option maxRecDepth 100000 in
set_option maxHeartbeats 1000000 in
theorem num_c (T : TypeId) (b : Nat) (st : Option ByteArray) (w : World) (h : Rd T w b st) :
    Calls Try.prog 37 #[.pointer (some ⟨b, 0, none⟩)] w (NumSays T w b st) := by
  cases st with
  | none =>
    go_enter Try.func37, Try.ntmps37
    go_wp2
    go_step3
    go_wp2_with (first | (go_at_call 39; refine (ok_c T _ _ _ h).mono ?_; rintro e w' ⟨rfl, rfl⟩))
    rw [Exit.noGoto_ret]
    go_ret
    exact ⟨rfl, h, Mod.refl _ _⟩
  | some s =>
    have hl := rd_size h
    have h0 := h.1.cell 0
    have f0 := h.1.free 0
    simp [rdL] at h0
    have H := hid h
    clear h
    rcases Nat.lt_or_ge 10 s.size with hx | hx
    all_goals
      go_enter Try.func37, Try.ntmps37
      go_wp2
      go_step3
      go_wp2_with (first | (go_at_call 39; refine (ok_c T _ _ _ H.out).mono ?_; rintro e w' ⟨rfl, rfl⟩))
      go_step3
      go_wp2
      go_loopg [3, 16] 10 (fun g a i wr => ∃ m acc : Nat, w = wr ∧ m ≤ s.size ∧ m + g = 10 ∧ i = .int .i64 m ∧ a = .int .u64 acc ∧ Hid (acc < 128 ^ m) ∧ Hid (Wire.num? s.data.toList 0 0 = Wire.num? (s.data.toList.drop m) m acc))
      · exact ⟨0, 0, rfl, by omega, by omega, rfl, rfl, show 0 < 128 ^ 0 by decide, rfl⟩
      · obtain ⟨m, acc, rfl, hm, hm2, rfl, rfl, hacc, hs⟩ := hrel
        by_cases hlt : m < s.size ∧ m < 10
        · obtain ⟨hlt, ht⟩ := hlt
          have hodd := hid (num_odd s m acc hlt)
          have hst := hid (num_step s m acc hlt ht)
          go_wp2_with fail
          generalize s[m]'hlt = c at *
          have hc := c.toNat_lt
          by_cases ho : ((0 < m ∧ c.toNat = 0) ∨ (m = 9 ∧ 1 < c.toNat))
          · have hB : Hid (true = decide ((0 < m ∧ c.toNat = 0) ∨ (m = 9 ∧ 1 < c.toNat))) := by show _ = _; simp only [decide_eq_true ho]
            have hno := hid (numOf_none (hs.out.trans (hodd.out ho)))
            clear ho hodd hst
            refine (odd_any m c _ ht _ hB).mono ?_
            rintro e w' ⟨rfl, rfl⟩
            go_wp2_with fail
            refine (fail_c T _ _ _ H.out).mono ?_
            rintro e w' ⟨rfl, hr, hmod⟩
            go_wp2
            rw [Exit.noGoto_ret]
            go_ret
            unfold NumSays
            rw [hno.out]
            exact ⟨rfl, hr, hmod⟩
          · have hB : Hid (false = decide ((0 < m ∧ c.toNat = 0) ∨ (m = 9 ∧ 1 < c.toNat))) := by show _ = _; simp only [decide_eq_false ho]
            have hst := hid (hst.out ho)
            have hfit := hid (fun h8 => digit_fits c.toNat m acc ht h8 ho hacc.out)
            have hfit2 := hid (fun h8 => more_fits c.toNat m acc ht h8 (by omega) ho hacc.out)
            clear ho hodd
            refine (odd_any m c _ ht _ hB).mono ?_
            rintro e w' ⟨rfl, rfl⟩
            by_cases h8 : c.toNat < 128
            · have hno := hid (numOf_some (hs.out.trans (hst.out.trans (if_pos h8))))
              have hor := hid (or_digit acc c.toNat m hacc.out (hfit.out h8))
              go_wp2
              rw [Exit.noGoto_ret]
              go_ret
              unfold NumSays
              rw [hno.out]
              exact ⟨ret_int hor.out, ⟨H.out.1.set 0 _, by simp [rdL]; omega⟩, (Mod.refl _ _).setCell (by simp) _⟩
            · have hlow := hid (low7 c.toNat (by omega) (by omega))
              have hor := hid (or_digit acc (c.toNat - 128) m hacc.out (hfit2.out (by omega)))
              have hml := hid (more_lt c.toNat m acc (by omega) (by omega) hacc.out)
              have hsn := hid (hs.out.trans (hst.out.trans (if_neg h8)))
              go_wp2
              go_roundg (gk - 1)
              case measure => omega
              case rel => exact ⟨m + 1, _, rfl, by omega, by omega, by go_num, by rw [hlow.out, hor.out], hml.out, hsn.out⟩
        · have hno : Hid (numOf (some s) = (0, none)) := by
            refine numOf_none (hs.out.trans ?_)
            by_cases h1 : m < s.size
            · exact num_ten _ _ _ (by omega)
            · exact num_end _ _ _ (by omega)
          have hlt' : ¬ (m < s.size ∧ m < 10) := hlt
          first
          | (have hge : 10 ≤ m := by omega)
          | (have hge : s.size ≤ m := by omega)
          clear hlt hlt'
          go_wp2_with fail
          refine (fail_c T _ _ _ H.out).mono ?_
          rintro e w' ⟨rfl, hr, hmod⟩
          go_wp2
          rw [Exit.noGoto_ret]
          go_ret
          unfold NumSays
          rw [hno.out]
          exact ⟨rfl, hr, hmod⟩

end Go.Proofs.Ythofkkmnngmafaa
