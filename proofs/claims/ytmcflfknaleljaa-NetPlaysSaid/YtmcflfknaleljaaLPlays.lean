/- The law NetPlays, walked. -/
import Derived.Test.YtmcflfknaleljaaO3
import Derived.Test.YtmcflfknaleljaaJ1
import Derived.Deep.CutRange
import Derived.Deep.CutBlock
namespace Go.Proofs.Ytmcflfknaleljaa
set_option linter.unusedVariables false
set_option linter.unusedSimpArgs false
set_option linter.unusedSectionVars false
open Go.RowKit

theorem dropF_len (fs : List Fr) (i : Int) : (dropF fs i).length ≤ fs.length := by
  unfold dropF; split
  · simp [dropL]; omega
  · exact Nat.le_refl _
theorem putL_len (fs : List Fr) (f : Fr) (h : fs.length ≤ 400) : (putL fs f).length ≤ 400 := by
  unfold putL; split
  · exact h
  · split
    · exact h
    · simp; omega
theorem twL_len (fs : List Fr) (i : Int) (h : fs.length ≤ 400) : (twL fs i).length ≤ 400 := by
  unfold twL; split
  · exact putL_len _ _ h
  · exact h

theorem bag_cell {w0 w : World} {T : TypeId} {b : Nat} {fs : List Fr} {U : Res} (h : Top w0 (star (bag T b fs) U) w) : ∃ a cap, w.cell? ⟨b, 0, none⟩ = some (.slice a fs.length cap) ∧ b < w.heap.size := by
  obtain ⟨L, v, R, h1, h2, _⟩ := h.res
  obtain ⟨a, cap, rfl, _⟩ := h2.val
  exact ⟨a, cap, h1.cell 0, h1.lt⟩

set_option maxRecDepth 100000 in
set_option maxHeartbeats 4000000 in
theorem plays_walk (a : Option Addr) (len cap : Nat) (xs : List Deed) (w : World) (hl : xs.length = len) (hlen : len ≤ 9223372036854775807) (hi : IsSeq 5 deedCells w a xs) :
    Calls Try.prog 3 #[.slice a len cap] w fun e w' => e = .returned (.bool true) ∧ Mod [] w w' := by
  have Hi := hid hi
  have Hl := hid hl
  clear hi hl
  go_enter Try.func3, Try.ntmps3
  go_wp2_with fail
  refine (new_t (Top.start w)).mono ?_
  rintro e w1 ⟨rfl, h⟩
  have h1 := hid (bag_new h 28).swap
  clear h
  go_wp2
  generalize w.heap.size = n at *
  generalize w1.heap.size = r at *
  generalize w1.alloc (.cells #[.slice none 0 0] 28) = w2 at *
  go_loopg [5] 200 (fun g i wr => ∃ (k : Nat) (fs : List Fr), i = .int .i64 k ∧ k + g = 200 ∧ fs.length ≤ 400 ∧ Hid (Two w n r fs fs emp wr))
  · exact ⟨0, [], rfl, by omega, by simp, h1⟩
  · obtain ⟨k, fs, rfl, hk, hfs, hT⟩ := hrel
    clear h1
    by_cases hlt : k < len ∧ k < 200
    · obtain ⟨hk1, hk2⟩ := hlt
      obtain ⟨x, hx⟩ : ∃ x, xs[k]? = some x := ⟨_, List.getElem?_eq_getElem (by have := Hl.out; omega)⟩
      obtain ⟨b, off, rfl, hc⟩ := Hi.out.at hT.out.m hx
      have h0 := hc 0 _ rfl
      have h1 := hc 1 _ rfl
      have h2 := hc 2 _ rfl
      have h3 := hc 3 _ rfl
      have h4 := hc 4 _ rfl
      simp only [Nat.add_zero] at h0
      have hn1 := hid x.hn1
      have hn2 := hid x.hn2
      clear hc hx
      have hB := hid (box2 hT.out #[.int .i64 x.what, .int .i64 x.n, .int .i64 x.many, .int .i64 x.f.dst, .string x.f.s] 32)
      obtain ⟨wh, i, many, f, hn1, hn2, hs⟩ := x
      simp only at h0 h1 h2 h3 h4 hB
      go_upto_block 2 with (fail)
      generalize wr.alloc (.cells #[.int .i64 wh, .int .i64 i, .int .i64 many, .int .i64 f.dst, .string f.s] 32) = W at *
      generalize wr.heap.size = q at *
      clear h0 h1 h2 h3 h4 hT
      have hq := hB.out.drop.drop.get.lt
      have hlA : (dropF fs i).length ≤ 400 := Nat.le_trans (dropF_len fs i) hfs
      have hlB : (twL fs i).length ≤ 400 := twL_len fs i hfs
      go_cut [7, 8, 9, 10, 11] from 19 to 129 (fun _ _ _ _ _ wx => ∃ fs' : List Fr, fs'.length ≤ 400 ∧ Hid (Two w n r fs' fs' (star (boxR q #[.int .i64 wh, .int .i64 i, .int .i64 many, .int .i64 f.dst, .string f.s] 32) emp) wx))
      case first =>
        by_cases w3 : wh = 3
        case' pos =>
          subst w3
          have c0 := (hB.out.drop.drop.get).cell 0
          have c1 := (hB.out.drop.drop.get).cell 1
          simp at c0 c1
          go_wp2_with fail
          refine (take2 hB.out i hfs hn1 hn2).mono ?_
          rintro e w4 ⟨rfl, h⟩
          have hC := hid (box2 h #[.int .i64 (atF fs i).dst, .string (atF fs i).s] 30)
          have d1 := (h.drop.drop.get).cell 1
          have dq := (h.drop.drop.get).lt
          simp at d1
          clear h c0 c1
          go_wp2_with fail
          refine (rtake2 hC.out i hfs).mono ?_
          rintro e w5 ⟨rfl, h⟩
          have hD := hid (box2 h #[.int .i64 (atF fs i).dst, .string (atF fs i).s] 30).drop3.drop3
          have g1 := (h.drop.drop.get).cell 0
          have g2 := (h.drop.drop.get).cell 1
          have gq := (h.drop.drop.get).lt
          have k1 := (h.drop.drop.drop.get).cell 1
          have kq := (h.drop.drop.drop.get).lt
          simp at g1 g2 k1
          clear h d1 dq
          go_wp2_with fail
          go_meet
          exact ⟨_, hlA, hD⟩
        by_cases w4 : wh = 4
        case' pos =>
          subst w4
          have c0 := (hB.out.drop.drop.get).cell 0
          simp at c0
          have hBd := hB.out.drew
          have hc1 : W.cell? ⟨q, 1, none⟩ = some (.int .i64 i) := (hB.out.drop.drop.get).cell 1
          go_upto_region 18 with (fail)
          go_region_held3 (fun X => X.cell? ⟨q, 1, none⟩ = some (.int .i64 i))
            (first
              | exact hc1
              | assumption
              | exact (h.drop.drop.get).cell 1)
            (first
              | (go_at_call 10; (first | refine (twice2 h i hn1 hn2).mono ?_ | refine (twice2 hBd i hn1 hn2).mono ?_); rintro e w5 ⟨rfl, h⟩)
              | (go_at_call 11; (first | refine (rtwice2 h i).mono ?_ | refine (rtwice2 hBd i).mono ?_); rintro e w5 ⟨rfl, h⟩))

          have hE := hid h
          clear h
          go_wp2_with fail
          go_meet
          exact ⟨_, hlB, hE⟩
        by_cases w5 : wh = 5
        case' pos =>
          subst w5
          have c0 := (hB.out.drop.drop.get).cell 0
          simp at c0
          have hBd := hB.out.drew
          have hc1 : W.cell? ⟨q, 1, none⟩ = some (.int .i64 i) := (hB.out.drop.drop.get).cell 1
          go_upto_region 21 with (fail)
          go_region_held3 (fun X => X.cell? ⟨q, 1, none⟩ = some (.int .i64 i))
            (first
              | exact hc1
              | assumption
              | exact (h.drop.drop.get).cell 1)
            (first
              | (go_at_call 12; (first | refine (drop2 h i hfs hn1 hn2).mono ?_ | refine (drop2 hBd i hfs hn1 hn2).mono ?_); rintro e w5 ⟨rfl, h⟩)
              | (go_at_call 13; (first | refine (rdrop2 h i hfs).mono ?_ | refine (rdrop2 hBd i hfs).mono ?_); rintro e w5 ⟨rfl, h⟩))

          have hE := hid h
          clear h
          go_wp2_with fail
          go_meet
          exact ⟨_, hlA, hE⟩
        have c0 := (hB.out.drop.drop.get).cell 0
        have c2 := (hB.out.drop.drop.get).cell 2
        simp at c0 c2
        rcases (by omega : (many < 1 ∧ ¬ 1 ≤ many) ∨ (1 ≤ many ∧ many ≤ 500) ∨ (1 ≤ many ∧ 500 < many)) with ⟨hm, hm'⟩ | ⟨hm, hm'⟩ | ⟨hm, hm'⟩
        all_goals
          go_wp2_with fail
          go_loopg [11] 500 (fun g j wq => ∃ (jn : Nat) (fs' : List Fr), j = .int .i64 jn ∧ jn + g = 500 ∧ fs'.length ≤ 400 ∧ Hid (Two w n r fs' fs' (star (boxR q #[.int .i64 wh, .int .i64 i, .int .i64 many, .int .i64 f.dst, .string f.s] 32) emp) wq))
          · exact ⟨0, fs, rfl, by omega, hfs, hB⟩
          · obtain ⟨jn, fs', rfl, hj, hfs', hV⟩ := hrel
            have d2 := (hV.out.drop.drop.get).cell 2
            simp at d2
            have dq := (hV.out.drop.drop.get).lt
            go_upto_region 10 with (fail)
            all_goals first
              | (go_meet; exact ⟨_, hfs', hV⟩)
              | (have hBd := hV.out.drew
                 have hc3 := (hV.out.drop.drop.get).cell 3
                 have hc4 := (hV.out.drop.drop.get).cell 4
                 go_region_held3 (fun X => X.cell? ⟨q, 3, none⟩ = some (.int .i64 f.dst) ∧ X.cell? ⟨q, 4, none⟩ = some (.string f.s))
                   (first
                     | exact ⟨hc3, hc4⟩
                     | assumption
                     | exact ⟨(h.drop.drop.get).cell 3, (h.drop.drop.get).cell 4⟩)
                   (first
                     | (go_at_call 14; (first | refine (put2 h f).mono ?_ | refine (put2 hBd f).mono ?_); rintro e w5 ⟨rfl, h⟩)
                     | (go_at_call 15; (first | refine (rput2 h f).mono ?_ | refine (rput2 hBd f).mono ?_); rintro e w5 ⟨rfl, h⟩))
                 have hE := hid h
                 clear h hBd
                 go_wp2
                 go_roundg (gk - 1)
                 case measure => omega
                 case rel => exact ⟨jn + 1, _, by go_num, by omega, putL_len _ _ hfs', hE⟩)
      case rest =>
        obtain ⟨fs', hfs', hV⟩ := hcut
        have d1 := (hV.out.drop.drop.get).cell 1
        simp at d1
        go_wp2_with fail
        refine (at2 hV.out i hn1 hn2).mono ?_
        rintro e w4 ⟨rfl, h⟩
        have hC := hid (box2 h #[.int .i64 (atF fs' i).dst, .string (atF fs' i).s] 30)
        have d2 := (h.drop.drop.get).cell 1
        have dq := (h.drop.drop.get).lt
        simp at d2
        clear h d1
        go_wp2_with fail
        refine (rat2 hC.out i).mono ?_
        rintro e w5 ⟨rfl, h⟩
        have hD := hid (box2 h #[.int .i64 (atF fs' i).dst, .string (atF fs' i).s] 30)
        clear h d2 dq
        go_upto_region 25 with (fail)
        generalize w5.alloc (.cells #[.int .i64 (atF fs' i).dst, .string (atF fs' i).s] 30) = V at *
        generalize w5.heap.size = p1 at *
        generalize w4.heap.size = p2 at *
        obtain ⟨ra, rc, er, _⟩ := bag_cell hD.out.drew.swap
        have e1 := (hD.out.drew.drop.drop.get).cell 0
        have e2 := (hD.out.drew.drop.drop.get).cell 1
        have e3 := (hD.out.drew.drop.drop.drop.get).cell 0
        have e4 := (hD.out.drew.drop.drop.drop.get).cell 1
        simp at e1 e2 e3 e4
        have hT' := hid hD.out.drop3.drop3.drop3.drew
        have hL := len_t hD.out.drew
        go_region_held3 (fun X => X = V.drew ∧ X.cell? ⟨r, 0, none⟩ = some (.slice ra fs'.length rc) ∧ (X.cell? ⟨p1, 0, none⟩ = some (.int .i64 (atF fs' i).dst) ∧ X.cell? ⟨p1, 1, none⟩ = some (.string (atF fs' i).s)) ∧ (X.cell? ⟨p2, 0, none⟩ = some (.int .i64 (atF fs' i).dst) ∧ X.cell? ⟨p2, 1, none⟩ = some (.string (atF fs' i).s)))
          (first
            | exact ⟨rfl, er, ⟨e1, e2⟩, ⟨e3, e4⟩⟩
            | assumption)
          (first | (go_at_call 18; refine hL.mono ?_; rintro e w6 ⟨rfl, rfl⟩))
        go_wp2
        go_roundg (gk - 1)
        case measure => omega
        case rel => exact ⟨k + 1, _, by go_num, by omega, hfs', hT'⟩
    · by_cases h1 : k < len
      · have h2 : 200 ≤ k := by omega
        clear hlt
        go_wp2_with fail
        refine (works_c _).mono ?_
        rintro e w4 ⟨rfl, hm4⟩
        go_wp2
        go_ret
        exact ⟨rfl, hT.out.m.tr hm4⟩
      · clear hlt
        go_wp2_with fail
        refine (works_c _).mono ?_
        rintro e w4 ⟨rfl, hm4⟩
        go_wp2
        go_ret
        exact ⟨rfl, hT.out.m.tr hm4⟩

theorem plays_said {H : Type} {enc : TypeId × Value → H} {base : Nat} {spare : Nat → Bool} {held : Bool} {d : DataW H} {p : List MemPlace} (a : Option Addr) (len cap : Nat) (w : World)
    (h : DataW.Trod enc Try.prog w base spare held 22 (.slice a len cap) d p) :
    Calls Try.prog 3 #[.slice a len cap] w fun e w' => e = .returned (.bool true) ∧ Mod [] w w' := by
  obtain ⟨xs, hl, hi, hlen⟩ := open_deeds h
  exact plays_walk a len cap xs w hl hlen hi

end Go.Proofs.Ytmcflfknaleljaa
