/- The law WireStrict, walked. -/
import Derived.Test.YtmjbpnoemdnhbaaU1
import Derived.Test.YtmjbpnoemdnhbaaQ1
import Derived.Test.YtmjbpnoemdnhbaaG1
import Derived.Deep.RegionWith
import Derived.Deep.CutRange
namespace Go.Proofs.Ytmjbpnoemdnhbaa
open Go.RowKit

/-- A count of ends so far: one at most, and where it is one, it was met. -/
def CountOK (f : Nat → Bool) (k c : Nat) : Prop := c ≤ 1 ∧ (c = 1 → ∃ j, j < k ∧ f j = true)

theorem CountOK.yes {f : Nat → Bool} {k c m : Nat} (h : CountOK f k c) (hk : k ≤ m) (hf : f k = true) (once : ∀ a b, a < b → b ≤ m → f a = true → f b = false) : CountOK f (k + 1) (c + 1) := by
  rcases Nat.lt_or_ge c 1 with hc | hc
  · exact ⟨by omega, fun _ => ⟨k, by omega, hf⟩⟩
  · obtain ⟨j, hj, hfj⟩ := h.2 (by have := h.1; omega)
    rw [once j k hj hk hfj] at hf; cases hf
theorem CountOK.no {f : Nat → Bool} {k c : Nat} (h : CountOK f k c) : CountOK f (k + 1) c := ⟨h.1, fun e => let ⟨j, hj, hf⟩ := h.2 e; ⟨j, by omega, hf⟩⟩

theorem rd_drew {T : TypeId} {w : World} {b : Nat} {st : Option ByteArray} (h : Rd T w b st) : Rd T w.drew b st := ⟨h.1.drew, h.2⟩

set_option maxRecDepth 100000 in
set_option maxHeartbeats 4000000 in
theorem strict_walk (s : ByteArray) (w : World) (hs : s.size ≤ 9223372036854775807) :
    Calls Try.prog 7 #[.string s] w fun e w' => e = .returned (.bool true) ∧ Mod [] w w' := by
  rcases Nat.lt_or_ge 40 s.size with hx | hx
  all_goals
    go_enter Try.func7, Try.ntmps7
    go_wp2
    first
    | (have hts : s.size ≤ 40 := hx
       generalize s = t at *)
    | (have hts : (s.extract 0 40).size ≤ 40 := by simp; omega
       generalize s.extract 0 40 = t at hts ⊢)
    go_loopg [3, 4, 5] (t.size + 1) (fun g x y i wr => ∃ (a c k : Nat), x = .int .i64 a ∧ y = .int .i64 c ∧ i = .int .i64 k ∧ k + g = t.size + 1 ∧ a ≤ 1 ∧ c ≤ 1 ∧ Hid (CountOK (numEnd t) k a) ∧ Hid (CountOK (textEnd t) k c) ∧ Hid (Mod [] w wr))
    · exact ⟨0, 0, 0, rfl, rfl, rfl, by omega, by omega, by omega, ⟨by omega, fun h => by omega⟩, ⟨by omega, fun h => by omega⟩, Mod.refl _ _⟩
    · obtain ⟨a, c, k, rfl, rfl, rfl, hk, ha, hc, hca, hcc, hmod⟩ := hrel
      by_cases hkt : k ≤ t.size
      · go_upto_region 6 with (fail)
        have hu : (t.extract 0 k).size ≤ 9223372036854775807 := by simp; omega
        go_cut [6, 7] from 15 to 58 (fun p q wx => ∃ b1 b2 : Nat, p = .pointer (some ⟨b1, 0, none⟩) ∧ q = .pointer (some ⟨b2, 0, none⟩) ∧ b1 ≠ b2 ∧ Hid (w.heap.size ≤ b1 ∧ w.heap.size ≤ b2) ∧ Rd 51 wx b1 (some (t.extract 0 k)) ∧ Rd 51 wx b2 (some (t.extract 0 k)) ∧ Hid (Mod [] w wx))
        case first =>
          go_region_with (go_at_call 15; refine (new_c _ _ hu).mono ?_; rintro e w1 ⟨rfl, hr1, hm1, hs1⟩)
          rename_i wA hrA hmA hsA
          have e : wA.heap.size = wr.heap.size + 1 := hsA
          rw [e] at hr1
          have hB := hmod.out
          have hsz := hB.size
          go_wp2_with fail
          go_meet
          exact ⟨_, _, rfl, rfl, by omega, ⟨by omega, by omega⟩, hrA.mod hm1 (by simp), hr1, ((hB.drew).tr hmA).tr hm1⟩
        case rest =>
          obtain ⟨b1, b2, rfl, rfl, hne, hbs, hr1, hr2, hmod2⟩ := hcut
          have hn1 : b1 ∉ [b2] := by simpa using hne
          have hn2 : b2 ∉ [b1] := by simpa using Ne.symm hne
          go_wp2_with fail
          refine (num_c _ _ _ _ hr1).mono ?_
          rintro e w2 ⟨rfl, hr3, hm3⟩
          have hr4 := hr2.mod hm3 hn2
          obtain ⟨n, hn⟩ : ∃ n, Hid (n = (numOf (some (t.extract 0 k))).1) := ⟨_, rfl⟩
          obtain ⟨st, hst⟩ : ∃ st, Hid (st = (numOf (some (t.extract 0 k))).2) := ⟨_, rfl⟩
          rw [← hst.out] at hr3
          rw [← hn.out]
          clear hr1 hr2
          go_wp2_with fail
          refine (end_c _ _ _ _ hr3).mono ?_
          rintro e w3 ⟨rfl, rfl⟩
          obtain ⟨E, hE⟩ : ∃ E, Hid (E = atEnd st) := ⟨_, rfl⟩
          rw [show (st.isSome && (rdL st).toList.isEmpty) = E from hE.out.symm]
          have hmm : Hid (Mod [] w w2) := hmod2.out.trans hm3 (by simp) (by intro x hx hlt; simp at hx; have := hbs.out; omega)
          clear hm3 hr3
          cases E
          case' false =>
            have hcx := hid (hca.out.no)
            have hrx := hr4
            have hmx := hmm
            clear hr4 hmm hca
            have ha1 := ha
            go_wp2_with fail
          case' true =>
            have hce : Hid (numEnd t k = true) := by
              show _ = _
              unfold numEnd; rw [← hst.out]; exact hE.out.symm
            have hcx := hid (hca.out.yes hkt hce.out (fun x y h1 h2 h3 => numEnd_once t x y h1 (by omega) h3))
            have ha1 : a + 1 ≤ 1 := hcx.out.1
            have hdig := numEnd_is _ hce.out
            rw [← hn.out] at hdig
            have hdig1 := hid hdig.1
            have hdig2 := hdig.2
            clear hdig hca
            go_wp2_with fail
            go_region_with (go_at_call 24; refine (bytesOf_c _ _ hdig2).mono ?_; rintro e w4 ⟨rfl, hm4⟩; rw [hdig1.out])
            rename_i w4 hm4
            have hrx := (rd_drew hr4).mod hm4 (by simp)
            have hmx := hid (hmm.out.drew.tr hm4)
            clear hr4 hmm hm4
            go_wp2_with fail
          all_goals
            refine (text_c _ _ _ _ hrx).mono ?_
            rintro e w5 ⟨rfl, hr5, hm5⟩
            obtain ⟨x, hx⟩ : ∃ x, Hid (x = (textOf (some (t.extract 0 k))).1) := ⟨_, rfl⟩
            obtain ⟨st5, hst5⟩ : ∃ st, Hid (st = (textOf (some (t.extract 0 k))).2) := ⟨_, rfl⟩
            rw [← hst5.out] at hr5
            rw [← hx.out]
            clear hrx
            go_wp2_with fail
            refine (end_c _ _ _ _ hr5).mono ?_
            rintro e w6 ⟨rfl, rfl⟩
            obtain ⟨E, hE⟩ : ∃ E, Hid (E = atEnd st5) := ⟨_, rfl⟩
            rw [show (st5.isSome && (rdL st5).toList.isEmpty) = E from hE.out.symm]
            have hmy : Hid (Mod [] w w5) := hmx.out.trans hm5 (by simp) (by intro x hx hlt; simp at hx; have := hbs.out; omega)
            clear hm5 hr5 hmx
            cases E
            case' false =>
              have hcy := hid (hcc.out.no)
              go_wp2
              go_roundg (gk - 1)
              case measure => omega
              case rel => exact ⟨_, _, k + 1, by first | rfl | go_num, rfl, by go_num, by omega, by omega, by omega, hcx, hcy, hmy⟩
            case' true =>
              have hce : Hid (textEnd t k = true) := by
                show _ = _
                unfold textEnd; rw [← hst5.out]; exact hE.out.symm
              have hcy := hid (hcc.out.yes hkt hce.out (fun x y h1 h2 h3 => textEnd_once t x y h1 (by omega) h3))
              have hc1 : c + 1 ≤ 1 := hcy.out.1
              have htx := textEnd_is _ hce.out
              rw [← hx.out] at htx
              have htx1 : Hid ((⟨#[]⟩ : ByteArray) ++ textB x = t.extract 0 k) := by
                show _ = _
                rw [htx.1]; exact ba_ext (by simp)
              have htx2 : x.size ≤ 140737488351232 := by have := htx.2; simp at this; omega
              clear htx
              go_wp2_with fail
              go_region_with (go_at_call 26; refine (putText_c _ _ _ (by decide) htx2).mono ?_; rintro e w7 ⟨rfl, hm7⟩; rw [htx1.out])
              rename_i w7 hm7
              have hmz := hid (hmy.out.drew.tr hm7)
              go_wp2
              go_roundg (gk - 1)
              case measure => omega
              case rel => exact ⟨_, _, k + 1, by first | rfl | go_num, by go_num, by go_num, by omega, by omega, by omega, hcx, hcy, hmz⟩
      · go_wp2_with fail
        refine (works_c _).mono ?_
        rintro e w4 ⟨rfl, hm4⟩
        go_wp2
        go_ret
        exact ⟨rfl, hmod.out.tr hm4⟩

theorem strict_said (s : ByteArray) (w : World) (hs : s.size ≤ maxLen) :
    Calls Try.prog 7 #[.string s] w fun e w' => e = .returned (.bool true) ∧ Mod [] w w' :=
  strict_walk s w (by simpa [maxLen] using hs)

end Go.Proofs.Ytmjbpnoemdnhbaa
