/- The law NetOrder, walked. -/
import Derived.Test.YtmcflfknaleljaaOR
namespace Go.Proofs.Ytmcflfknaleljaa
set_option linter.unusedVariables false
set_option linter.unusedSimpArgs false
open Go.RowKit

theorem Top.open {w0 w : World} {R U : Res} [Keep U] (h : Top w0 (star R U) w) : ∃ L, R w L ∧ ∀ (w' : World) (R' : Res) (L' : List Nat), R' w' L' → Mod L w w' → (∀ k ∈ L', k ∈ L ∨ w.heap.size ≤ k) → Top w0 (star R' U) w' := by
  obtain ⟨L, ⟨L1, L2, h1, h2, rfl, hd⟩, hm, hf⟩ := h
  exact ⟨L1, h1, fun w' R' L' k1 k2 k3 => (Top.says h1 h2 hd hm hf ⟨rfl, L', k1, k2, k3⟩ (r := .bool true) (e := .returned (.bool true))).2⟩

section
variable {P : Program} {w : World}
theorem op_append_rdl {o : Oper} {a : Act} {K : Act → World → Prop} {Q : Exit → Act → World → Prop} (hgd : o.guard = none) (s x : Operand) (t E : TypeId)
    (ho : o.op = .call { callee := .builtin .append, args := #[s, x], argTypes := #[t, t] })
    {z : Value} {sz bytes : Nat} (ht : P.underlying t = some (.slice E)) (he : (P.info? E).map (fun i => (i.zero, i.size, i.bytes)) = some (some z, sz, bytes)) (hzs : z.cells.size = sz) (hsz : 0 < sz)
    {v : Value} (hs : a.eval s = v) {n : Nat} {xs : List Value} {L : List Nat} (hown : Own w E sz v n xs L) {y : Value} (hy : a.eval x = y) {m : Nat} {ys : List Value} (hx : Rdl w sz y m ys) (h1 : ∀ u ∈ ys, u.oneCell' = true)
    (h63 : n + m ≤ 9223372036854775807) (hbytes : (n + m) * bytes ≤ 140737488355328)
    (h : ∀ v' w' L', Hid (Own w' E sz v' (n + m) (xs ++ ys) L') → Hid (Mod L w w') → Hid (∀ k ∈ L', k ∈ L ∨ w.heap.size ≤ k) → K (a.put o.dst v') w') :
    Oper.wp P o a w K Q := by
  obtain ⟨v', w', L', hrun, h2, h3, h4⟩ := run_append_rdl (P := P) t o.type E ht he hzs hsz hown hx h1 h63 hbytes
  unfold Oper.wp
  simp [execOp, ho, resolve, invoke, builtin, hs, hy, hrun, Result.andThen]
  exact h v' w' L' h2 h3 h4
end

abbrev NW (w0 : World) (n : Nat) (fs : List Fr) (v : Value) (m : Nat) (ss : List Value) (w : World) : Prop := Top w0 (star (rowR 9 1 v m ss) (star (bag 51 n fs) emp)) w

abbrev U16 := {n : Nat // n < 65536}
def u16C (x : U16) : List Value := [.int .u16 x.1]

set_option maxRecDepth 100000 in
set_option maxHeartbeats 4000000 in
theorem order_walk (many : Nat) (a : Option Addr) (len cap : Nat) (xs : List U16) (w : World) (hmany : many < 65536) (hl : xs.length = len) (hlen : len ≤ 9223372036854775807) (hi : IsSeq 1 u16C w a xs) :
    Calls Try.prog 5 #[.int .u16 many, .slice a len cap] w fun e w' => e = .returned (.bool true) ∧ Mod [] w w' := by
  have Hi := hid hi
  have Hl := hid hl
  clear hi hl
  have hrem : Int.tmod (many : Int) 300 = ((many % 300 : Nat) : Int) := rfl
  obtain ⟨m, hm⟩ : ∃ m, many % 300 = m := ⟨_, rfl⟩
  have hm3 : m < 300 := by omega
  rw [hm] at hrem
  have Hm := hid hm
  clear hm
  go_enter Try.func5, Try.ntmps5
  go_wp2_with fail
  refine (works_c _).mono ?_
  rintro e w1 ⟨rfl, hm1⟩
  have hm1' := hid hm1
  clear hm1
  go_wp2_with fail
  refine (new_t (w0 := w1) (Top.start w1)).mono ?_
  rintro e w2 ⟨rfl, h⟩
  have h2 : Hid (NW w1 w1.heap.size [] (.slice none 0 0) 0 [] w2) := Top.made h (L := []) (Own.nil _ _ _) (Mod.refl _ _) (by simp)
  clear h
  generalize w1.heap.size = n at *
  go_wp2
  go_loopg [6, 7, 8] 300 (fun g v i s wr => ∃ (k : Nat), i = .int .i64 k ∧ k ≤ m ∧ k + g = 300 ∧ Hid (NW w1 n (oL k) v k (strs (oL k)) wr))
  · exact ⟨0, rfl, by omega, by omega, h2⟩
  · obtain ⟨k, rfl, hkm, hk, hT⟩ := hrel
    clear h2
    by_cases hlt : k < m
    · have hmod : Int.tmod (k : Int) 2 = ((k % 2 : Nat) : Int) := rfl
      have hcv := conv_bytes (wr.alloc (.cells #[.int .u8 ((k : Int) % 256), .int .u8 ((k : Int) / 256), .int .u8 120] 5)) wr.heap.size 3 3 [UInt8.ofNat (k % 256), UInt8.ofNat (k / 256 % 256), 120] 5 (by
        have e : #[Value.int .u8 ((k : Int) % 256), Value.int .u8 ((k : Int) / 256), Value.int .u8 120] = (bytesV [UInt8.ofNat (k % 256), UInt8.ofNat (k / 256 % 256), 120]).toArray := by
          have e1 : ((k % 256 : Nat) : Int) = (k : Int) % 256 := by omega
          have e2 : ((k / 256 % 256 : Nat) : Int) = (k : Int) / 256 := by omega
          simp [bytesV]
          omega
        rw [e]
        exact Blk.new _ _ _) rfl
      have e1 := o_putE k (by omega)
      have e2 := o_putL k (by omega)
      have E1 := hid e1
      have E2 := hid e2
      have h3 := hid (hT.out.alloc (.cells #[.int .u8 ((k : Int) % 256), .int .u8 ((k : Int) / 256), .int .u8 120] 5))
      clear e1 e2
      go_wp2_with fail
      refine (h3.out.read (to_c _ _ (oS k))).mono ?_
      rintro e w3 ⟨rfl, h⟩
      have h4 := hid h.swap
      clear h hcv
      go_wp2_with fail
      refine (put_t h4.out (oF k)).mono ?_
      rintro e w4 ⟨rfl, h⟩
      rw [E1.out]
      rw [E2.out] at h
      have h5 := hid (h.swap.alloc (.cells #[.string (oS k)] 9))
      clear h
      obtain ⟨L, hown, hop⟩ := h5.out.open
      have hown' := hid hown
      have hop' := hid hop
      clear hown hop
      have hx : Hid (Rdl (w4.alloc (.cells #[.string (oS k)] 9)) 1 (.slice (some ⟨w4.heap.size, 0, none⟩) 1 1) 1 [.string (oS k)]) := by
        refine ⟨rfl, Or.inr ⟨_, 0, 1, rfl, fun j hj => ?_⟩⟩
        rw [(Blk.new w4 _ _).cell]
        simp
      have hx1 : ∀ u ∈ [Value.string (oS k)], u.oneCell' = true := by intro u hu; simp at hu; subst hu; rfl
      go_wp2_with (at_builtin; refine wpList_append_rdl rfl (.tmp 38) (.tmp 40) 48 9 rfl Try.underlying48 elem_str rfl (by decide) rfl hown'.out rfl hx.out hx1 (by omega) (by omega) ?_; intro v' w5 L' g1 g2 g3)
      go_roundg (gk - 1)
      case measure => omega
      case rel => exact ⟨k + 1, by go_num, by omega, by omega, by
        have e : strs (oL (k + 1)) = strs (oL k) ++ [.string (oS k)] := by simp [strs, oL, oF, List.range_succ]
        show NW _ _ _ _ _ _ _
        rw [e]
        exact hop'.out _ _ _ g1.out g2.out g3.out⟩
    · have hkm' : k = m := by omega
      subst hkm'
      clear hlt hkm
      obtain ⟨L0, hown0⟩ := hT.out.res
      obtain ⟨aw, cw, hv, _⟩ := hown0.val
      subst hv
      clear hown0
      go_wp2
      go_loopg [6, 9, 10] 300 (fun g v i c wq => ∃ (j : Nat) (fs : List Fr) (aw : Option Addr) (cw : Nat), v = .slice aw fs.length cw ∧ i = .int .i64 j ∧ j + g = 300 ∧ fs.length ≤ 300 ∧ Hid (NW w1 n fs (.slice aw fs.length cw) fs.length (strs fs) wq))
      · exact ⟨0, oL k, aw, cw, by rw [oL_len], rfl, by omega, by rw [oL_len]; omega, by rw [oL_len]; exact hT⟩
      · obtain ⟨j, fs, aw, cw, rfl, rfl, hj, hfs, hV⟩ := hrel
        clear hT
        by_cases hg : j < len ∧ j < 300 ∧ 0 < fs.length
        · obtain ⟨hg1, hg2, hg3⟩ := hg
          obtain ⟨x, hx⟩ : ∃ x, xs[j]? = some x := ⟨_, List.getElem?_eq_getElem (by have := Hl.out; omega)⟩
          obtain ⟨b, off, rfl, hc⟩ := Hi.out.at (hm1'.out.tr hV.out.m) hx
          have h0 := hc 0 _ rfl
          simp only [Nat.add_zero, Nat.mul_one] at h0
          clear hc hx
          obtain ⟨x, hxb⟩ := x
          simp only at h0
          have hne : ¬ (fs.length : Int) = 0 := by omega
          have hmod : Int.tmod (x : Int) (fs.length : Int) = ((x % fs.length : Nat) : Int) := rfl
          have hql := Nat.mod_lt x hg3
          generalize x % fs.length = q at *
          have hin : inb fs (q : Int) := ⟨by omega, by omega⟩
          have e1 : atE fs (q : Int) = 0 := by unfold atE; rw [if_pos hin]
          have e2 : dropF fs (q : Int) = dropL fs q := by unfold dropF; rw [if_pos hin]; simp
          have E1 := hid e1
          have E2 := hid e2
          clear e1 e2 hin
          have h3 := hid hV.out.swap
          go_wp2_with fail
          refine (drop_t h3.out (q : Int) (by omega) (by omega) (by omega)).mono ?_
          rintro e w3 ⟨rfl, h⟩
          rw [E1.out]
          rw [E2.out] at h
          have h4 := hid h.swap.drew
          clear h h3 hV
          obtain ⟨L, hown, hop⟩ := h4.out.open
          obtain ⟨aw', cw', hv, hn1, hn2, hrow⟩ := Own.val hown
          simp only [Value.slice.injEq, true_and] at hv
          obtain ⟨rfl, rfl⟩ := hv
          obtain ⟨g, rfl, rfl, _⟩ := hrow hg3
          have hF := hid (Own.full hown (k := q) (by omega))
          have hY := hid (Own.from hown (k := q + 1) (by omega) (cw - (q + 1)))
          have hop' := hid hop
          have hW := hid hown
          clear hown hop hrow
          have hln : (dropL fs q).length = q + (fs.length - (q + 1)) := by simp [dropL]; omega
          have hsd : strs (dropL fs q) = (strs fs).take q ++ (strs fs).drop (q + 1) := strs_dropL fs q
          have H1 := hid hln
          have H2 := hid hsd
          clear hln hsd
          go_upto_region 18 with (fail)
          have hw1 : IntKind.i64.wrap ((q : Int) + 1) = (q : Int) + 1 := IntWalk.i64_in _ ⟨by omega, by omega⟩
          have hi1 : (0 : Int) ≤ (q : Int) := by omega
          have hi2 : (q : Int) ≤ (cw : Int) := by omega
          have hi3 : (q : Int) + 1 ≤ (fs.length : Int) := by omega
          have hi4 : (q : Int) + 1 ≤ (cw : Int) := by omega
          have hi5 : (0 : Int) ≤ (q : Int) + 1 := by omega
          clear hmod hrem
          rcases Nat.lt_or_ge (q + 1) cw with hcp | hcp
          case' inl =>
            have hne2 : ¬ cw = q + 1 := by omega
            have hZ : Hid (Rdl w3.drew 1 (.slice (some ⟨g, q + 1, none⟩) (fs.length - (q + 1)) (cw - (q + 1))) (fs.length - (q + 1)) ((strs fs).drop (q + 1))) := hY
          case' inr =>
            have hE : q + 1 = cw := by omega
            have hZ : Hid (Rdl w3.drew 1 (.slice (some ⟨g, 0, none⟩) 0 0) 0 ((strs fs).drop (q + 1))) := by
              show Rdl _ _ _ _ _
              rw [List.drop_of_length_le (by rw [strs_len]; omega)]
              exact ⟨rfl, Or.inr ⟨g, 0, 0, rfl, fun j hj => by omega⟩⟩
          all_goals
            clear hY
            refine wp_region_K 8 (fun _ => True) (by rfl) ?_
            refine wpAnyK_take [8, 3, 0] (i := 0) (oi := { dst := some 69, op := .move (.tmp 6), type := 48, pos := _, after := _, guard := none }) (v := ?_) rfl (by kernel_rfl) (by kernel_rfl) (by kernel_rfl) (by kernel_rfl) (by rfl) (fun _ _ _ h => h) (Or.inl ⟨by rfl, ?_⟩) trivial ?_
            rotate_left
            · intro w hSw; go_simp; try with_reducible rfl
            simp only [Act.put, List.setIfInBounds_toArray, List.set_cons_zero, List.set_cons_succ]
            refine wpAnyK_take [8, 3, 1] (i := 1) (oi := { dst := some 70, op := .move (.tmp 10), type := 3, pos := _, after := _, guard := none }) (v := ?_) rfl (by kernel_rfl) (by kernel_rfl) (by kernel_rfl) (by kernel_rfl) (by rfl) (fun _ _ _ h => h) (Or.inl ⟨by rfl, ?_⟩) trivial ?_
            rotate_left
            · intro w hSw; go_simp; try with_reducible rfl
            simp only [Act.put, List.setIfInBounds_toArray, List.set_cons_zero, List.set_cons_succ]
            refine wpAnyK_take [8, 3, 2] (i := 2) (oi := { dst := some 71, op := .move (.tmp 10), type := 3, pos := _, after := _, guard := none }) (v := ?_) rfl (by kernel_rfl) (by kernel_rfl) (by kernel_rfl) (by kernel_rfl) (by rfl) (fun _ _ _ h => h) (Or.inl ⟨by rfl, ?_⟩) trivial ?_
            rotate_left
            · intro w hSw; go_simp; try with_reducible rfl
            simp only [Act.put, List.setIfInBounds_toArray, List.set_cons_zero, List.set_cons_succ]
            refine wpAnyK_take [8, 3] (i := 3) (oi := { dst := some 72, op := .slice 48 (.tmp 69) none (some (.tmp 70)) (some (.tmp 71)), type := 48, pos := _, after := _, guard := none }) (v := ?_) rfl (by kernel_rfl) (by kernel_rfl) (by kernel_rfl) (by kernel_rfl) (by rfl) (fun _ _ _ h => h) (Or.inl ⟨by rfl, ?_⟩) trivial ?_
            rotate_left
            · intro w hSw; go_simp; try with_reducible rfl
            simp only [Act.put, List.setIfInBounds_toArray, List.set_cons_zero, List.set_cons_succ]
            refine wpAnyK_take [8, 7, 4] (i := 4) (oi := { dst := some 73, op := .move (.tmp 6), type := 48, pos := _, after := _, guard := none }) (v := ?_) rfl (by kernel_rfl) (by kernel_rfl) (by kernel_rfl) (by kernel_rfl) (by rfl) (fun _ _ _ h => h) (Or.inl ⟨by rfl, ?_⟩) trivial ?_
            rotate_left
            · intro w hSw; go_simp; try with_reducible rfl
            simp only [Act.put, List.setIfInBounds_toArray, List.set_cons_zero, List.set_cons_succ]
            refine wpAnyK_take [8, 7, 6, 5] (i := 5) (oi := { dst := some 74, op := .move (.tmp 10), type := 3, pos := _, after := _, guard := none }) (v := ?_) rfl (by kernel_rfl) (by kernel_rfl) (by kernel_rfl) (by kernel_rfl) (by rfl) (fun _ _ _ h => h) (Or.inl ⟨by rfl, ?_⟩) trivial ?_
            rotate_left
            · intro w hSw; go_simp; try with_reducible rfl
            simp only [Act.put, List.setIfInBounds_toArray, List.set_cons_zero, List.set_cons_succ]
            refine wpAnyK_take [8, 7, 6] (i := 6) (oi := { dst := some 75, op := .binOp .add 3 (.tmp 74) (.const (.int .i64 1)) 3, type := 3, pos := _, after := _, guard := none }) (v := ?_) rfl (by kernel_rfl) (by kernel_rfl) (by kernel_rfl) (by kernel_rfl) (by rfl) (fun _ _ _ h => h) (Or.inl ⟨by rfl, ?_⟩) trivial ?_
            rotate_left
            · intro w hSw; go_simp; try with_reducible rfl
            simp only [Act.put, List.setIfInBounds_toArray, List.set_cons_zero, List.set_cons_succ]
            refine wpAnyK_take [8, 7] (i := 7) (oi := { dst := some 76, op := .slice 48 (.tmp 73) (some (.tmp 75)) none none, type := 48, pos := _, after := _, guard := none }) (v := ?_) rfl (by kernel_rfl) (by kernel_rfl) (by kernel_rfl) (by kernel_rfl) (by rfl) (fun _ _ _ h => h) (Or.inl ⟨by rfl, ?_⟩) trivial ?_
            rotate_left
            · intro w hSw; go_simp; try with_reducible rfl
            simp only [Act.put, List.setIfInBounds_toArray, List.set_cons_zero, List.set_cons_succ]
            refine wpAnyK_one (i := 8) (by kernel_rfl) rfl (by rfl) (fun K' hK => ?_)
            show Oper.wp _ { dst := some 77, op := .call { callee := .builtin .append, args := #[.tmp 72, .tmp 76], argTypes := #[48, 48] }, type := 48, pos := "outright.go:98", after := #[{ on := 3, ground := .data }, { on := 7, ground := .data }], guard := none } _ _ _ _
            refine op_append_rdl rfl (.tmp 72) (.tmp 76) 48 9 rfl Try.underlying48 elem_str rfl (by decide) rfl hF.out rfl hZ.out (by intro u hu; exact strs_one fs u (List.mem_of_mem_drop hu)) (by omega) (by omega) ?_
            intro v5 w5 L5 g1 g2 g3
            simp only [Act.put, List.setIfInBounds_toArray, List.set_cons_zero, List.set_cons_succ]
            refine hK.out _ _ ⟨fun h _ => absurd rfl h, ?_⟩
            clear hK
            clear K'
            obtain ⟨a5, c5, hv5, _⟩ := g1.out.val
            subst hv5
            refine wpAnyK_one (i := 9) (by kernel_rfl) rfl (by rfl) (fun K' hK => ?_)
            go_simp
            refine hK.out _ _ ⟨fun _ _ => trivial, ?_⟩
            clear hK
            clear K'
            refine wpAnyK_done (by kernel_rfl) ?_ _
            clear hw1
            go_wp2
            go_roundg (gk - 1)
            case measure => omega
            case rel =>
              refine ⟨j + 1, dropL fs q, a5, c5, ?_, by go_num, by omega, by rw [H1.out]; omega, ?_⟩
              · have hq := H1.out
                exact congrArg (fun z => Value.slice a5 z c5) (by omega)
              · show NW _ _ _ _ _ _ _
                rw [H2.out, H1.out]
                have hn5 : q + (fs.length - (q + 1)) = _ := rfl
                exact hop'.out _ _ _ (by first | exact g1.out | (rw [show q + (fs.length - (q + 1)) = q + 0 by omega]; exact g1.out)) g2.out g3.out
        · clear hrem
          rcases (by omega : ¬ j < len ∨ (j < len ∧ ¬ j < 300) ∨ (j < len ∧ j < 300 ∧ ¬ 0 < fs.length)) with hx | ⟨hx, hx'⟩ | ⟨hx, hx', hx''⟩
          all_goals
            clear hg
            go_wp2
            go_loopg [11, 12, 13] 301 (fun g i p e wz => ∃ (r : Nat), i = .int .i64 r ∧ r ≤ fs.length ∧ r + g = 301 ∧ Hid (NW w1 n (fs.drop r) (.slice aw fs.length cw) fs.length (strs fs) wz))
            · exact ⟨0, rfl, by omega, by omega, hV⟩
            · obtain ⟨r, rfl, hrl, hr, hZ⟩ := hrel
              by_cases hlt : r < fs.length
              · try (exfalso; omega)
                all_goals
                  obtain ⟨f, hf⟩ : ∃ f, fs[r]? = some f := ⟨fs[r], by simp [hlt]⟩
                  have hd : fs.drop r = f :: fs.drop (r + 1) := by
                    obtain ⟨h1, rfl⟩ := List.getElem?_eq_some_iff.1 hf
                    exact (List.getElem_cons_drop h1).symm
                  have hin : inb (fs.drop r) 0 := by rw [hd]; exact ⟨by omega, by simp⟩
                  have a1 : Hid (atF (fs.drop r) 0 = f) := by show _ = _; unfold atF; rw [if_pos hin, hd]; rfl
                  have a2 : Hid (atE (fs.drop r) 0 = 0) := by show _ = _; unfold atE; rw [if_pos hin]
                  have a3 : Hid (dropF (fs.drop r) 0 = fs.drop (r + 1)) := by show _ = _; unfold dropF; rw [if_pos hin, hd]; rfl
                  have hs : (strs fs)[r]? = some (.string f.s) := by simp [strs, hf]
                  have hs' := hid hs
                  clear hin hd hf hs
                  go_wp2_with fail
                  refine (take_t hZ.out.swap 0 (by rw [List.length_drop]; omega) (by decide) (by decide)).mono ?_
                  rintro e w9 ⟨rfl, h⟩
                  rw [a1.out, a2.out]
                  rw [a3.out] at h
                  have hB := hid (h.box #[.int .i64 f.dst, .string f.s] 30)
                  clear h a1 a2 a3 hZ
                  go_upto_region 23 with (fail)
                  generalize w9.alloc (.cells #[.int .i64 f.dst, .string f.s] 30) = V at *
                  generalize w9.heap.size = q at *
                  have b1 := (hB.out.drew.get).cell 1
                  simp at b1
                  have hN := hid hB.out.drew.drop.swap
                  obtain ⟨L, hown⟩ := hN.out.res
                  obtain ⟨aw', cw', hv, hn1, hn2, hrow⟩ := Own.val hown
                  simp only [Value.slice.injEq, true_and] at hv
                  obtain ⟨rfl, rfl⟩ := hv
                  obtain ⟨g, rfl, rfl, hcell⟩ := hrow (by omega)
                  have b2 := hcell r (by omega)
                  rw [hs'.out] at b2
                  clear hown hrow hcell hB
                  go_region_held3 (fun X => X = V.drew ∧ X.cell? ⟨q, 1, none⟩ = some (.string f.s) ∧ X.cell? ⟨g, r, none⟩ = some (.string f.s))
                    (first
                      | exact ⟨rfl, b1, b2⟩
                      | assumption)
                    (fail)
                  go_wp2
                  go_roundg (gk - 1)
                  case measure => omega
                  case rel => exact ⟨r + 1, by go_num, by omega, by omega, hN⟩
              · have hre : fs.drop r = [] := List.drop_of_length_le (by omega)
                rw [hre] at hZ
                clear hre
                go_wp2_with fail
                refine (len_t hZ.out.swap).mono ?_
                rintro e w9 ⟨rfl, rfl⟩
                go_wp2
                go_ret
                exact ⟨rfl, hm1'.out.tr hZ.out.m⟩

open Go.ChangeShapes Go.WideShapes Go.Deep in
theorem open_u16 {H : Type} {enc : TypeId × Value → H} {w : World} {base : Nat} {spare : Nat → Bool} {held : Bool} {a : Option Addr} {len cap : Nat} {d : DataW H} {p : List MemPlace}
    (h : DataW.Trod enc Try.prog w base spare held 47 (.slice a len cap) d p) : ∃ xs : List U16, xs.length = len ∧ IsSeq 1 u16C w a xs ∧ len ≤ 9223372036854775807 := by
  refine open_seq Try.underlying47 (C := 1) (by kernel_rfl) (by decide) u16C ?_ h
  intro fuel cs x hx hlen
  obtain ⟨n0, e0, _, w0⟩ := DataW.trod_int Try.underlying46 hx
  have hb : 0 ≤ n0 ∧ n0 < 65536 := by
    simp [Lit.wf, IntKind.min, IntKind.max, IntKind.signed, IntKind.bits] at w0
    omega
  obtain ⟨k, rfl⟩ := Int.eq_ofNat_of_zero_le hb.1
  exact ⟨⟨k, by omega⟩, e0⟩

theorem order_said {H : Type} {enc : TypeId × Value → H} {base : Nat} {spare : Nat → Bool} {held : Bool} {d : DataW H} {p : List MemPlace} (m : Int) (a : Option Addr) (len cap : Nat) (w : World) (hm : (Lit.int .u16 m).wf = true)
    (h : DataW.Trod enc Try.prog w base spare held 47 (.slice a len cap) d p) :
    Calls Try.prog 5 #[.int .u16 m, .slice a len cap] w fun e w' => e = .returned (.bool true) ∧ Mod [] w w' := by
  have hb : 0 ≤ m ∧ m < 65536 := by
    simp [Lit.wf, IntKind.min, IntKind.max, IntKind.signed, IntKind.bits] at hm
    omega
  obtain ⟨k, rfl⟩ := Int.eq_ofNat_of_zero_le hb.1
  obtain ⟨xs, hl, hi, hlen⟩ := open_u16 h
  exact order_walk k a len cap xs w (by omega) hl hlen hi

end Go.Proofs.Ytmcflfknaleljaa
