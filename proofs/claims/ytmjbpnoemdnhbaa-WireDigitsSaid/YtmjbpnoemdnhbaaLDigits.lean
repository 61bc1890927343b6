/- The law WireDigits, walked. -/
import Derived.Test.YtmjbpnoemdnhbaaU1
import Derived.Test.YtmjbpnoemdnhbaaP2
import Derived.Test.YtmjbpnoemdnhbaaG1
namespace Go.Proofs.Ytmjbpnoemdnhbaa
open Go.RowKit

theorem and127 (c : Nat) (h : c < 256) : IntKind.u64.wrap (bits BinOp.and IntKind.u8 (c : Int) 127) = ((c % 128 : Nat) : Int) := by
  rw [show (127 : Int) = ((127 : Nat) : Int) from rfl, u8_and _ _ (by omega) (by omega) (by omega) (by omega)]
  simp only [Int.toNat_natCast]
  have : c &&& 127 = c % 128 := by
    rw [show (127 : Nat) = 2 ^ 7 - 1 from rfl, Nat.and_two_pow_sub_one_eq_mod]
  rw [this, IntKind.wrap_u64]; omega

theorem drop_get (s : ByteArray) (k m : Nat) (hk : k < s.size) (h : s.data.toList.drop k = Wire.digits m) :
    (m < 128 → (s[k]'hk).toNat = m ∧ k + 1 = s.size) ∧ (¬ m < 128 → (s[k]'hk).toNat = 128 + m % 128 ∧ k + 1 < s.size ∧ s.data.toList.drop (k + 1) = Wire.digits (m / 128)) := by
  have e : s.data.toList.drop k = s[k]'hk :: s.data.toList.drop (k + 1) := by
    rw [List.drop_eq_getElem_cons (by simpa using hk)]; rfl
  rw [e] at h
  constructor
  · intro hm
    rw [Wire.digits_lt hm] at h
    simp only [List.cons.injEq] at h
    refine ⟨by rw [h.1, Wire.u8 (by omega)], ?_⟩
    have := congrArg List.length h.2
    simp at this; omega
  · intro hm
    rw [Wire.digits_ge hm] at h
    simp only [List.cons.injEq] at h
    refine ⟨by rw [h.1, Wire.u8 (by omega)], ?_, h.2⟩
    have h1 := congrArg List.length h.2
    have h2 := Wire.digits_len_pos (m / 128)
    simp at h1; omega

theorem numOf_digits (s : ByteArray) (n : Nat) (hn : n < 18446744073709551616) (h : s = ⟨(Wire.digits n).toArray⟩) : numOf (some s) = (n, some ⟨#[]⟩) := by
  have := Wire.num_digits [] n (by simpa using hn)
  rw [List.append_nil] at this
  subst h
  rw [numOf_some (n := n) (k := (Wire.digits n).length) (by simpa using this)]
  congr 2
  apply ByteArray.ext
  simp

set_option maxRecDepth 100000 in
set_option maxHeartbeats 1000000 in
theorem digits_walk (n : Nat) (hn : n < 18446744073709551616) (w : World) :
    Calls Try.prog 5 #[.int .u64 n] w fun e w' => e = .returned (.bool true) ∧ Mod [] w w' := by
  obtain ⟨s, hs⟩ : ∃ s : ByteArray, Hid (s = ⟨(Wire.digits n).toArray⟩) := ⟨_, rfl⟩
  have hsl : Hid (s.data.toList = Wire.digits n) := by rw [hs.out]; rfl
  have h1 : 1 ≤ s.size := by rw [hs.out]; exact Wire.digits_len_pos n
  have h2 : s.size ≤ 10 := by rw [hs.out]; exact digits_len10 n hn
  have hsz : Hid (s.size = (Wire.digits n).length) := by rw [hs.out]; rfl
  go_enter Try.func5, Try.ntmps5
  go_wp2_with fail
  refine (bytesOf_c _ _ hn).mono ?_
  rintro e w1 ⟨rfl, hm1⟩
  rw [← hs.out]
  go_wp2
  go_loopg [4, 5] 10 (fun g d x wr => ∃ (c m : Nat), w1 = wr ∧ d = .int .i64 c ∧ x = .int .u64 m ∧ c + g = 11 ∧ c ≤ s.size ∧ m < 18446744073709551616 ∧ Hid ((m = 0 → c = s.size) ∧ (0 < m → c + (Wire.digits m).length = s.size)))
  case atStart =>
    refine ⟨1, n / 128, rfl, rfl, by go_num, rfl, h1, by omega, ?_, ?_⟩
    · intro h; rw [hsz.out]; exact (Wire.digits_len_one n h).symm
    · intro h; rw [hsz.out]; exact (Wire.digits_len_step n h).symm
  case round =>
    obtain ⟨c, m, rfl, rfl, rfl, hcg, hcs, hm, hrel⟩ := hrel
    by_cases h0 : 0 < m
    · have hlt : c < s.size := by
        have := hrel.out.2 h0
        have := Wire.digits_len_pos m
        omega
      go_wp2
      go_roundg (gk - 1)
      case measure => omega
      case rel =>
        refine ⟨c + 1, m / 128, rfl, by go_num, by go_num, by omega, by omega, by omega, ?_, ?_⟩
        · intro h
          have a := hrel.out.2 h0
          have b := Wire.digits_len_one m h
          omega
        · intro h
          have a := hrel.out.2 h0
          have b := Wire.digits_len_step m h
          omega
    · have hc : c = s.size := hrel.out.1 (by omega)
      subst hc
      go_wp2
      go_loopg [6, 7] s.size (fun g x i wr => ∃ (k m : Nat), Mod [] w wr ∧ i = .int .i64 k ∧ x = .int .u64 m ∧ k + g = s.size ∧ m < 18446744073709551616 ∧ Hid ((k < s.size → s.data.toList.drop k = Wire.digits m) ∧ (k = s.size → m = 0)))
      case atStart => exact ⟨0, n, hm1, rfl, rfl, by omega, hn, fun _ => by rw [hsl.out]; rfl, fun h => by omega⟩
      case round =>
        obtain ⟨k, m', hmr, rfl, rfl, hkg, hm', hrel2⟩ := hrel
        by_cases hk : k < s.size
        · obtain ⟨c, hget⟩ : ∃ c : UInt8, s[k]'hk = c := ⟨_, rfl⟩
          have hg := drop_get s k m' hk (hrel2.out.1 hk)
          rw [hget] at hg
          have hc := c.toNat_lt
          have hand := and127 c.toNat (by omega)
          have hg' := hid hg
          clear hg
          have hki : (k : Int) < (s.size : Int) := by omega
          by_cases hm2 : m' < 128
          · obtain ⟨e1, e2⟩ := hg'.out.1 hm2
            subst e1
            have e3 : s.size ≤ k + 1 := by omega
            have e4 : k + 1 ≤ s.size := by omega
            have e6 : (!(decide ((128 : Int) ≤ (c.toNat : Int)) == decide ((k : Int) + 1 < (s.size : Int)))) = false := by
              rw [decide_eq_false (by omega : ¬ ((128 : Int) ≤ (c.toNat : Int))), decide_eq_false (by omega : ¬ ((k : Int) + 1 < (s.size : Int)))]; rfl
            have e2' := hid e2
            clear e2
            go_wp2
            go_quiet (fail)
            go_wp2
            go_roundg (gk - 1)
            case measure => omega
            case rel =>
              refine ⟨k + 1, c.toNat / 128, hmr.drewN _, by go_num, by go_num, by omega, by omega, ?_, ?_⟩
              · intro h; omega
              · intro _; omega
          · obtain ⟨e1, e2, e3⟩ := hg'.out.2 hm2
            have e4 : 128 ≤ c.toNat := by omega
            have e5 : (((c.toNat : Int) % 128) != ((m' : Int) % 128)) = false := by simp; omega
            have e6 : (!(decide ((128 : Int) ≤ (c.toNat : Int)) == decide ((k : Int) + 1 < (s.size : Int)))) = false := by
              rw [decide_eq_true (by omega : ((128 : Int) ≤ (c.toNat : Int))), decide_eq_true (by omega : ((k : Int) + 1 < (s.size : Int)))]; rfl
            have e1' := hid e1
            have e3' := hid e3
            clear e1 e3
            go_wp2
            go_quiet (fail)
            go_wp2
            go_roundg (gk - 1)
            case measure => omega
            case rel =>
              refine ⟨k + 1, m' / 128, hmr.drewN _, by go_num, by go_num, by omega, by omega, ?_, ?_⟩
              · intro _; exact e3'.out
              · intro h; omega
        · have e0 : Hid (k = s.size) := by show _ = _; omega
          have e1 : Hid (m' = 0) := hrel2.out.2 e0.out
          obtain rfl : m' = 0 := e1.out
          go_wp2_with fail
          refine (new_c s _ (by omega)).mono ?_
          rintro e w2 ⟨rfl, hr, hm2, hsz2⟩
          clear hsz2
          obtain ⟨b, hb⟩ : ∃ b, Hid (b = wr.heap.size) := ⟨_, rfl⟩
          rw [← hb.out] at hr ⊢
          have hnum := numOf_digits s n hn hs.out
          go_wp2_with fail
          refine (num_c _ _ _ _ hr).mono ?_
          rintro e w3 ⟨rfl, hr3, hm3⟩
          rw [hnum] at hr3
          rw [hnum]
          have hrd : rdL (some ⟨#[]⟩) = ⟨#[]⟩ := rfl
          clear hnum
          go_wp2_with fail
          refine (end_c _ _ _ _ hr3).mono ?_
          rintro e w4 ⟨rfl, rfl⟩
          go_wp2_with fail
          refine (works_c _).mono ?_
          rintro e w4 ⟨rfl, hm4⟩
          go_wp2
          go_ret
          refine ⟨rfl, ?_⟩
          have := hmr.tr hm2
          exact ((this.trans hm3 (m := [b]) (by simp) (by simp)).trans hm4 (m := [b]) (by simp) (by simp)).mono (by
            intro x hx hlt; simp at hx; have := hb.out; have := hmr.size; omega)

theorem digits_said (a : Int) (w : World) (ha : (Lit.int .u64 a).wf = true) :
    Calls Try.prog 5 #[.int .u64 a] w fun e w' => e = .returned (.bool true) ∧ Mod [] w w' := by
  have h1 := u64_bounds ha
  obtain ⟨x, rfl⟩ := Int.eq_ofNat_of_zero_le h1.1
  exact digits_walk x (by omega) w

end Go.Proofs.Ytmjbpnoemdnhbaa
