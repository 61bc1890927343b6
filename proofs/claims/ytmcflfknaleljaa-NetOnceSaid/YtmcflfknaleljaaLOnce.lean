/- The law NetOnce, walked. -/
import Derived.Test.YtmcflfknaleljaaOC
namespace Go.Proofs.Ytmcflfknaleljaa
set_option linter.unusedVariables false
set_option linter.unusedSimpArgs false
open Go.RowKit

abbrev U8 := {n : Nat // n < 256}
def u8C (x : U8) : List Value := [.int .u8 x.1]

abbrev OW (w0 : World) (n p : Nat) (ls : List Let) (w : World) : Prop := Top w0 (star (bag 51 n (cL ls)) (star (boxR p (cA ls) 42) emp)) w

set_option maxRecDepth 100000 in
set_option maxHeartbeats 4000000 in
theorem once_walk (a a' : Option Addr) (len cap len' cap' : Nat) (xs ys : List U8) (w : World) (hl : xs.length = len) (hlen : len ≤ 9223372036854775807) (hi : IsSeq 1 u8C w a xs)
    (hl' : ys.length = len') (hlen' : len' ≤ 9223372036854775807) (hi' : IsSeq 1 u8C w a' ys) :
    Calls Try.prog 4 #[.slice a len cap, .slice a' len' cap'] w fun e w' => e = .returned (.bool true) ∧ Mod [] w w' := by
  have Hi := hid hi
  have Hl := hid hl
  have Hi' := hid hi'
  have Hl' := hid hl'
  clear hi hl hi' hl'
  go_enter Try.func4, Try.ntmps4
  go_wp2_with fail
  refine (works_c _).mono ?_
  rintro e w1 ⟨rfl, hm1⟩
  have hm1' := hid hm1
  clear hm1
  go_wp2_with fail
  refine (new_t (w0 := w1) (Top.start w1)).mono ?_
  rintro e w2 ⟨rfl, h⟩
  generalize w1.heap.size = n at *
  have h2 : Hid (OW w1 n w2.heap.size [] (w2.alloc (.cells #[.int .i64 0, .int .i64 0, .int .i64 0, .int .i64 0, .int .i64 0, .int .i64 0, .int .i64 0, .int .i64 0] 42))) := (h.box (cA []) 42).swap
  clear h
  go_wp2
  go_loopg [7, 8] 300 (fun g t i wr => ∃ (k : Nat) (ls : List Let), t = .int .i64 ls.length ∧ i = .int .i64 k ∧ k + g = 300 ∧ ls.length ≤ k ∧ Hid (OW w1 n w2.heap.size ls wr))
  · exact ⟨0, [], rfl, rfl, by omega, by simp, h2⟩
  · obtain ⟨k, ls, rfl, rfl, hk, hls, hT⟩ := hrel
    clear h2
    by_cases hlt : k < len ∧ k < 300
    · obtain ⟨hk1, hk2⟩ := hlt
      have hx : ∃ x, xs[k]? = some x := ⟨_, List.getElem?_eq_getElem (by have := Hl.out; omega)⟩
      go_upto_if 32 with (fail)
      go_cut [9] from 33 to 37 (fun v wx => ∃ q : Nat, v = .int .i64 q ∧ q < 256 ∧ Hid (OW w1 n w2.heap.size ls wx))
      case first =>
        by_cases hk3 : k < len'
        · obtain ⟨y, hy⟩ : ∃ y, ys[k]? = some y := ⟨_, List.getElem?_eq_getElem (by have := Hl'.out; omega)⟩
          obtain ⟨b, off, rfl, hc⟩ := Hi'.out.at (hm1'.out.tr hT.out.m) hy
          have h0 := hc 0 _ rfl
          simp only [Nat.add_zero, Nat.mul_one] at h0
          obtain ⟨y, hyb⟩ := y
          simp only at h0
          clear hc hy
          go_wp2
          go_meet
          exact ⟨y, rfl, hyb, hT⟩
        · go_wp2
          go_meet
          exact ⟨0, rfl, by omega, hT⟩
      case rest =>
        obtain ⟨q, rfl, hq, hT2⟩ := hcut
        rename_i wx _ _ _ _ _
        clear hT
        go_upto_if 39 with (fail)
        go_cut [9] from 40 to 42 (fun v wx => ∃ q : Nat, v = .int .i64 q ∧ q < 256 ∧ (0 < ls.length → q < ls.length) ∧ Hid (OW w1 n w2.heap.size ls wx))
        case first =>
          by_cases hp : 0 < ls.length
          · have hmod : Int.tmod (q : Int) (ls.length : Int) = ((q % ls.length : Nat) : Int) := rfl
            have hql := Nat.mod_lt q hp
            have hne : ¬ (ls.length : Int) = 0 := by omega
            have hqm := Nat.mod_le q ls.length
            go_wp2
            go_meet
            exact ⟨q % ls.length, rfl, by omega, fun _ => hql, hT2⟩
          · go_wp2
            go_meet
            exact ⟨q, rfl, hq, fun h => absurd h hp, hT2⟩
        case rest =>
          obtain ⟨q, rfl, hq, hql, hT⟩ := hcut
          clear hT2
          obtain ⟨x, hx⟩ := hx
          obtain ⟨b, off, rfl, hc⟩ := Hi.out.at (hm1'.out.tr hT.out.m) hx
          have h0 := hc 0 _ rfl
          simp only [Nat.add_zero, Nat.mul_one] at h0
          obtain ⟨x, hxb⟩ := x
          simp only at h0
          have Hx := hid hx
          clear hc hx
          obtain ⟨c, hc⟩ : ∃ c : Let, c.1 = x / 4 % 8 := ⟨⟨x / 4 % 8, Nat.mod_lt _ (by decide)⟩, rfl⟩
          have hcZ : ((x : Int) / 4 % 8) = ((c.1 : Nat) : Int) := by omega
          have hc8 : c.1 < 8 := c.2
          clear hc
          go_upto_region 15 with (fail)
          rw [hcZ]
          have hcv : (convert 41 9 (.slice (some ⟨wc.heap.size, 0, none⟩) 1 1)).run Try.prog (wc.alloc (.cells #[.int .u8 (97 + (c.1 : Int))] 5)) = .ok (.string (cS c)) (wc.alloc (.cells #[.int .u8 (97 + (c.1 : Int))] 5)) := conv_bytes (wc.alloc (.cells #[.int .u8 (97 + (c.1 : Int))] 5)) wc.heap.size 1 1 [UInt8.ofNat (97 + c.1)] 5 (by
            have e : #[Value.int .u8 (97 + (c.1 : Int))] = (bytesV [UInt8.ofNat (97 + c.1)]).toArray := by
              simp [bytesV]
              omega
            rw [e]
            exact Blk.new _ _ _) rfl
          have hmod2 : Int.tmod (c.1 : Int) 2 = ((c.1 % 2 : Nat) : Int) := rfl
          have hN := hid (hT.out.alloc (.cells #[.int .u8 (97 + (c.1 : Int))] 5))
          clear hcZ hT
          go_wp2_with fail
          refine (hN.out.read (to_c _ _ (cS c))).mono ?_
          rintro e w3 ⟨rfl, h⟩
          have hB : Hid (Top w1 (star (boxR w3.heap.size #[.int .i64 ((c.1 : Int) % 2), .string (cS c)] 30) (star (bag 51 n (cL ls)) (star (boxR w2.heap.size (cA ls) 42) emp))) (w3.alloc (.cells #[.int .i64 ((c.1 : Int) % 2), .string (cS c)] 30))) := h.box (cF c).cells 30
          obtain ⟨_, _, e, hc⟩ := Hi.out.at (hm1'.out.tr hB.out.m) Hx.out
          simp only [Option.some.injEq, Addr.mk.injEq, and_true] at e
          obtain ⟨rfl, rfl⟩ := e
          have h0 := hc 0 _ rfl
          simp only [Nat.add_zero, Nat.mul_one] at h0
          clear h hcv hN hmod2 hc
          go_upto_block 2 with (fail)
          generalize w3.alloc (.cells #[.int .i64 ((c.1 : Int) % 2), .string (cS c)] 30) = W at *
          generalize w3.heap.size = p3 at *
          generalize w2.heap.size = p at *
          have hpl := hB.out.drop.drop.get.lt
          have hp3 := hB.out.get.lt
          have hc82 : (c.1 : Int) < 8 := by omega
          go_cut [4, 7, 12, 13, 14, 15] from 19 to 155 (fun _ t _ _ _ _ wx => ∃ ls' : List Let, t = .int .i64 ls'.length ∧ ls'.length ≤ k + 1 ∧ Hid (OW w1 n p ls' wx))
          case first =>
            rcases (by omega : (x : Int) % 4 = 0 ∨ (x : Int) % 4 = 1 ∨ (x : Int) % 4 = 2 ∨ (x : Int) % 4 = 3) with hx4 | hx4 | hx4 | hx4
            case inl =>
              have f0 := hB.out.get.cell 0
              have f1 := hB.out.get.cell 1
              simp at f0 f1
              go_wp2_with fail
              refine (put_t hB.out.swap (cF c)).mono ?_
              rintro e w4 ⟨rfl, h⟩
              rw [c_putE ls c (by omega)]
              rw [c_putL ls c (by omega)] at h
              have hC := hid h.swap.drop.swap
              clear h f0 f1
              have g := hC.out.get.cell c.1
              rw [cA_at ls c.1 hc8] at g
              have gf := hC.out.get.free c.1
              have hpw := hC.out.get.lt
              have hnl := cN_le ls c.1
              go_wp2
              go_meet
              exact ⟨ls ++ [c], by simp, by simp; omega, by
                have h := (hC.out.set c.1 (.int .i64 ((cN ls c.1 : Nat) + 1 : Int))).swap
                rw [cA_put] at h
                exact h⟩
            case inr.inl =>
              have f0 := hB.out.get.cell 0
              have f1 := hB.out.get.cell 1
              simp at f0 f1
              go_wp2_with fail
              refine (put_t hB.out.swap (cF c)).mono ?_
              rintro e w4 ⟨rfl, h⟩
              rw [c_putE ls c (by omega)]
              rw [c_putL ls c (by omega)] at h
              have hC := hid h.swap.drop.swap
              clear h f0 f1
              have g := hC.out.get.cell c.1
              rw [cA_at ls c.1 hc8] at g
              have gf := hC.out.get.free c.1
              have hpw := hC.out.get.lt
              have hnl := cN_le ls c.1
              go_wp2
              go_meet
              exact ⟨ls ++ [c], by simp, by simp; omega, by
                have h := (hC.out.set c.1 (.int .i64 ((cN ls c.1 : Nat) + 1 : Int))).swap
                rw [cA_put] at h
                exact h⟩
            case inr.inr.inl =>
              rcases Nat.eq_zero_or_pos ls.length with hz | hz
              · obtain rfl := List.eq_nil_of_length_eq_zero hz
                go_wp2_with fail
                refine (at_t hB.out.swap (q : Int) (by omega) (by omega)).mono ?_
                rintro e w4 ⟨rfl, h⟩
                rw [c_none]
                have hC := hid h.swap.drop
                clear h
                generalize atF (cL []) (q : Int) = ff at *
                have hD := hid (hC.out.alloc (.cells #[.int .i64 ff.dst, .string ff.s] 30))
                go_wp2
                go_meet
                exact ⟨[], rfl, by simp, hD⟩
              · obtain ⟨d, hd⟩ : ∃ d, ls[q]? = some d := ⟨_, List.getElem?_eq_getElem (hql hz)⟩
                have hd8 : d.1 < 8 := d.2
                have hd82 : (d.1 : Int) < 8 := by omega
                go_wp2_with fail
                refine (at_t hB.out.swap (q : Int) (by omega) (by omega)).mono ?_
                rintro e w4 ⟨rfl, h⟩
                rw [(c_at ls q d hd).1, (c_at ls q d hd).2]
                have Hd := hid hd
                have hC := hid ((h.swap.drop).box #[.int .i64 (cF d).dst, .string (cF d).s] 30).swap
                clear h hd
                go_wp2_with fail
                refine (twice_t hC.out (q : Int) (by omega) (by omega)).mono ?_
                rintro e w5 ⟨rfl, h⟩
                rw [(c_tw ls q d Hd.out (by omega)).1]
                rw [(c_tw ls q d Hd.out (by omega)).2] at h
                have f0 : w5.cell? ⟨w4.heap.size, 1, none⟩ = some (.string (cS d)) := h.swap.get.cell 1
                have hz5 := cS_size d
                have hix := cS_ix d
                have hE := hid h.swap.drop.swap
                clear h
                have g := hE.out.get.cell d.1
                rw [cA_at ls d.1 hd8] at g
                have gf := hE.out.get.free d.1
                have hpw := hE.out.get.lt
                have hnl := cN_le ls d.1
                go_wp2
                go_meet
                exact ⟨ls ++ [d], by simp, by simp; omega, by
                  have h := (hE.out.set d.1 (.int .i64 ((cN ls d.1 : Nat) + 1 : Int))).swap
                  rw [cA_put] at h
                  exact h⟩
            case inr.inr.inr =>
              rcases Nat.eq_zero_or_pos ls.length with hz | hz
              · obtain rfl := List.eq_nil_of_length_eq_zero hz
                go_wp2_with fail
                refine (take_t hB.out.swap (q : Int) (by simp [cL]) (by omega) (by omega)).mono ?_
                rintro e w4 ⟨rfl, h⟩
                rw [c_none]
                rw [c_nodrop] at h
                have hC := hid h.swap.drop
                clear h
                generalize atF (cL []) (q : Int) = ff at *
                have hD := hid (hC.out.alloc (.cells #[.int .i64 ff.dst, .string ff.s] 30))
                go_wp2
                go_meet
                exact ⟨[], rfl, by simp, hD⟩
              · obtain ⟨d, hd⟩ : ∃ d, ls[q]? = some d := ⟨_, List.getElem?_eq_getElem (hql hz)⟩
                have hd8 : d.1 < 8 := d.2
                have hd82 : (d.1 : Int) < 8 := by omega
                go_wp2_with fail
                refine (take_t hB.out.swap (q : Int) (by rw [cL_len]; omega) (by omega) (by omega)).mono ?_
                rintro e w4 ⟨rfl, h⟩
                rw [(c_at ls q d hd).1, (c_at ls q d hd).2]
                rw [c_drop ls q (hql hz)] at h
                have Hd := hid hd
                have hC : Hid (Top w1 (star (boxR w4.heap.size #[.int .i64 ((d.1 : Int) % 2), .string (cS d)] 30) (star (bag 51 n (cL (cDrop ls q))) (star (boxR p (cA ls) 42) emp))) (w4.alloc (.cells #[.int .i64 ((d.1 : Int) % 2), .string (cS d)] 30))) := (h.swap.drop).box (cF d).cells 30
                clear h hd
                go_upto_region 21 with (fail)
                have hW' : (w4.alloc (.cells #[.int .i64 (cF d).dst, .string (cF d).s] 30)) = w4.alloc (.cells #[.int .i64 ((d.1 : Int) % 2), .string (cS d)] 30) := rfl
                rw [hW']
                generalize w4.alloc (.cells #[.int .i64 ((d.1 : Int) % 2), .string (cS d)] 30) = V at *
                generalize w4.heap.size = p4 at *
                clear hW'
                have g0 : V.cell? ⟨p4, 0, none⟩ = some (.int .i64 ((d.1 : Int) % 2)) := hC.out.get.cell 0
                have g1 : V.cell? ⟨p4, 1, none⟩ = some (.string (cS d)) := hC.out.get.cell 1
                have g2 := hC.out.drop.drop.get.cell d.1
                rw [cA_at ls d.1 hd8] at g2
                have hpw := hC.out.drop.drop.get.lt
                have hnl := cN_le ls d.1
                have hnp := cN_pos ls q d Hd.out
                have hz5 := cS_size d
                have hix := cS_ix d
                have gf := hC.out.drop.drop.get.free d.1
                have k1 := cS_ge d
                have k2 := cS_le d
                have k3 := cS_le' d
                have k4 : (((cN ls d.1 : Nat) : Int) == 0) = false := by simp; omega
                go_quiet (fail)
                go_wp2
                rename_i nq _
                go_meet
                exact ⟨cDrop ls q, congrArg (Value.int .i64) (by rw [cDrop_len ls q (hql hz)]; omega), by rw [cDrop_len ls q (hql hz)]; omega, by
                  have h := (((hC.out.drop.mod ((Mod.refl [] V).drewN nq)).swap.set d.1 (.int .i64 ((cN ls d.1 : Nat) - 1 : Int)))).swap
                  rw [cA_drop ls q d Hd.out] at h
                  exact h⟩
          case rest =>
            obtain ⟨ls', rfl, hls', hT'⟩ := hcut
            clear hB h0 hpl hp3
            go_wp2_with fail
            refine (len_t hT'.out).mono ?_
            rintro e w9 ⟨rfl, rfl⟩
            rw [cL_len]
            go_wp2
            go_roundg (gk - 1)
            case measure => omega
            case rel => exact ⟨k + 1, ls', rfl, by go_num, by omega, by omega, hT'⟩
    · rcases (by omega : ¬ k < len ∨ (k < len ∧ ¬ k < 300)) with h1 | ⟨h1, h3⟩
      all_goals
        clear hlt
        go_wp2
        go_ret
        exact ⟨rfl, hm1'.out.tr hT.out.m⟩

open Go.ChangeShapes Go.WideShapes Go.Deep in
theorem open_u8 {H : Type} {enc : TypeId × Value → H} {w : World} {base : Nat} {spare : Nat → Bool} {held : Bool} {a : Option Addr} {len cap : Nat} {d : DataW H} {p : List MemPlace}
    (h : DataW.Trod enc Try.prog w base spare held 41 (.slice a len cap) d p) : ∃ xs : List U8, xs.length = len ∧ IsSeq 1 u8C w a xs ∧ len ≤ 9223372036854775807 := by
  refine open_seq Try.underlying41 (C := 1) (by kernel_rfl) (by decide) u8C ?_ h
  intro fuel cs x hx hlen
  obtain ⟨n0, e0, _, w0⟩ := DataW.trod_int Try.underlying5 hx
  have hb : 0 ≤ n0 ∧ n0 < 256 := by
    simp [Lit.wf, IntKind.min, IntKind.max, IntKind.signed, IntKind.bits] at w0
    omega
  obtain ⟨k, rfl⟩ := Int.eq_ofNat_of_zero_le hb.1
  exact ⟨⟨k, by omega⟩, e0⟩

theorem once_said {H : Type} {enc : TypeId × Value → H} {base : Nat} {spare : Nat → Bool} {held : Bool} {d : DataW H} {p : List MemPlace} (a : Option Addr) (len cap : Nat) {d' : DataW H} {p' : List MemPlace} (a' : Option Addr) (len' cap' : Nat) (w : World)
    (h : DataW.Trod enc Try.prog w base spare held 41 (.slice a len cap) d p) (h' : DataW.Trod enc Try.prog w base spare held 41 (.slice a' len' cap') d' p') :
    Calls Try.prog 4 #[.slice a len cap, .slice a' len' cap'] w fun e w' => e = .returned (.bool true) ∧ Mod [] w w' := by
  obtain ⟨xs, hl, hi, hlen⟩ := open_u8 h
  obtain ⟨ys, hl', hi', hlen'⟩ := open_u8 h'
  exact once_walk a a' len cap len' cap' xs ys w hl hlen hi hl' hlen' hi'

end Go.Proofs.Ytmcflfknaleljaa
