/- The law WireLays, walked. -/
import Derived.Test.YtmjbpnoemdnhbaaI2
import Derived.Test.YtmjbpnoemdnhbaaG1
namespace Go.Proofs.Ytmjbpnoemdnhbaa
open Go.RowKit

set_option maxRecDepth 100000 in
set_option maxHeartbeats 4000000 in
theorem lays_walk (s : ByteArray) (a : Option Addr) (len cap : Nat) (xs : List Item) (w : World) (hs : s.size ≤ 9223372036854775807) (hl : xs.length = len) (hlen : len ≤ 9223372036854775807) (hi : IsItems w a xs) :
    Calls Try.prog 3 #[.string s, .slice a len cap] w fun e w' => e = .returned (.bool true) ∧ Mod [] w w' := by
  have Hi := hid hi
  have Hl := hid hl
  clear hi hl
  rcases Nat.lt_or_ge 50 s.size with hx | hx
  all_goals
    go_enter Try.func3, Try.ntmps3
    go_wp2
    first
    | (have hts : s.size ≤ 50 := hx
       generalize s = t at *)
    | (have hts : (s.extract 0 50).size ≤ 50 := by simp; omega
       generalize s.extract 0 50 = t at hts ⊢)
    go_loopg [5, 6, 7] 40 (fun g x y i wr => ∃ (k : Nat) (m : ByteArray), x = .string m ∧ y = .string m ∧ i = .int .i64 k ∧ k + g = 40 ∧ m.size ≤ 50 + 210 * k ∧ Hid (Mod [] w wr))
    · exact ⟨0, t, rfl, rfl, rfl, by omega, by omega, Mod.refl _ _⟩
    · obtain ⟨k, m, rfl, rfl, rfl, hk, hmz, hmod⟩ := hrel
      by_cases hlt : k < len ∧ k < 40
      · obtain ⟨hk1, hk2⟩ := hlt
        obtain ⟨x, hx⟩ : ∃ x, xs[k]? = some x := ⟨_, List.getElem?_eq_getElem (by have := Hl.out; omega)⟩
        obtain ⟨b, off, rfl, h0, h1, h2⟩ := items_at Hi.out hmod.out hx
        have Hx := hid hx
        clear hx
        have hbz := itemB_size x
        go_wp2_with fail
        refine (put_i x m _ (by omega)).mono ?_
        rintro e w1 ⟨rfl, hm1⟩
        have hmod1 := hid (hmod.out.tr hm1)
        obtain ⟨b', off', hab, h0', h1', h2'⟩ := items_at Hi.out hmod1.out Hx.out
        simp only [Option.some.injEq, Addr.mk.injEq, and_true] at hab
        obtain ⟨rfl, rfl⟩ := hab
        clear h0 h1 h2
        cases hT : x.isT
        · rw [hT] at h0'
          have hB : Hid (itemB x = ⟨(Wire.digits x.n).toArray⟩) := by show _ = _; unfold itemB; rw [hT]; rfl
          clear hT
          go_wp2_with fail
          refine (rput_c m x.n _ (by omega) x.hn).mono ?_
          rintro e w2 ⟨rfl, hm2⟩
          rw [← hB.out]
          go_wp2
          go_roundg (gk - 1)
          case measure => omega
          case rel => exact ⟨k + 1, _, rfl, rfl, by go_num, by omega, by simp; omega, hmod1.out.tr hm2⟩
        · have ht := text_i x
          rw [hT] at h0' ht
          have ht' := hid ht
          have hB : Hid (itemB x = textB (cut x.s 200)) := by show _ = _; unfold itemB; rw [hT]; rfl
          have hcz := cut_size x.s 200
          clear hT ht
          go_wp2_with fail
          refine (ht'.out _).mono ?_
          rintro e w2 ⟨rfl, hm2⟩
          go_wp2_with fail
          refine (rputText_c m _ _ (by omega) (by omega)).mono ?_
          rintro e w3 ⟨rfl, hm3⟩
          rw [← hB.out]
          go_wp2
          go_roundg (gk - 1)
          case measure => omega
          case rel => exact ⟨k + 1, _, rfl, rfl, by go_num, by omega, by simp; omega, (hmod1.out.tr hm2).tr hm3⟩
      · by_cases h1 : k < len
        · have h2 : 40 ≤ k := by omega
          clear hlt
          go_wp2_with fail
          refine (works_c _).mono ?_
          rintro e w4 ⟨rfl, hm4⟩
          go_wp2
          go_ret
          exact ⟨rfl, hmod.out.tr hm4⟩
        · clear hlt
          go_wp2_with fail
          refine (works_c _).mono ?_
          rintro e w4 ⟨rfl, hm4⟩
          go_wp2
          go_ret
          exact ⟨rfl, hmod.out.tr hm4⟩

theorem lays_said {H : Type} {enc : TypeId × Value → H} {base : Nat} {spare : Nat → Bool} {held : Bool} {d : DataW H} {p : List MemPlace} (s : ByteArray) (a : Option Addr) (len cap : Nat) (w : World) (hs : s.size ≤ maxLen)
    (h : DataW.Trod enc Try.prog w base spare held 22 (.slice a len cap) d p) :
    Calls Try.prog 3 #[.string s, .slice a len cap] w fun e w' => e = .returned (.bool true) ∧ Mod [] w w' := by
  obtain ⟨xs, hl, hi, hlen⟩ := open_items h
  exact lays_walk s a len cap xs w (by simpa [maxLen] using hs) hl hlen hi

end Go.Proofs.Ytmjbpnoemdnhbaa
