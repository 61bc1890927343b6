/- TxnPlays: the walk. -/
import Derived.Test.YtocfeeecgpklnaaTYB
import Derived.Test.YtocfeeecgpklnaaTYG
namespace Go.Proofs.Ytocfeeecgpklnaa
set_option linter.unusedVariables false
set_option linter.unusedSimpArgs false
set_option linter.unusedSectionVars false
open Go.RowKit Go.Shelf

theorem modify_id {α : Type} (a : Array α) (b : Nat) (f : α → α) (h : ∀ x, a[b]? = some x → f x = x) : a.modify b f = a := by
  apply Array.ext
  · simp
  · intro j h1 h2
    rw [Array.getElem_modify]
    split
    · rename_i hb; subst hb; exact h _ (Array.getElem?_eq_getElem h2)
    · rfl
/-- To write what is there already. -/
theorem setCell_id {w : World} {b i : Nat} {c : Array Value} {T : TypeId} {v : Value} (h : Blk w b c T) (hv : c[i]? = some v) : w.setCell ⟨b, i, none⟩ v = w := by
  have e : c.setIfInBounds i v = c := by
    obtain ⟨hi, rfl⟩ := Array.getElem?_eq_some_iff.1 hv
    apply Array.ext
    · simp
    · intro j h1 h2
      by_cases hj : i = j
      · subst hj; simp
      · rw [Array.getElem_setIfInBounds]
        rw [if_neg hj]
  have h2 : w.heap[b]? = some (.cells c T (0, 0)) := h
  unfold World.setCell
  rw [modify_id]
  intro x hx
  rw [h2] at hx
  cases hx
  show Obj.cells (c.setIfInBounds i v) T (0, 0) = _
  rw [e]
theorem setCell_id2 {w : World} {b i : Nat} {c : Array Value} {T : TypeId} {v : Value} (h : Blk w b c T) (hv : w.cell? ⟨b, i, none⟩ = some v) : w.setCell ⟨b, i, none⟩ v = w := setCell_id h (by rw [← h.cell]; exact hv)

set_option maxRecDepth 100000 in
theorem need0_c (w : World) (b : Nat) (t : Tx) (L : List Nat) (h : txR b t w L) : Calls Try.prog 26 #[.pointer (some ⟨b, 0, none⟩), .int .u64 0] w fun e w' => e = .returned (.int .u64 t.need) ∧ w = w' := by
  obtain ⟨v, M, hb, ho, hbM, rfl⟩ := h
  have hbl := hb.lt
  have b2 : w.cell? ⟨b, 2, none⟩ = some (.int .u64 t.need) := hb.cell 2
  have f2 := hb.free 2
  have HE : Hid (w.setCell ⟨b, 2, none⟩ (.int .u64 t.need) = w) := setCell_id2 hb b2
  have hmx : max (t.need : Int) 0 = (t.need : Int) := by omega
  clear hb ho
  go_enter Try.func26, Try.ntmps26
  go_wp2
  go_ret
  exact ⟨rfl, HE.out.symm⟩
set_option maxRecDepth 100000 in
theorem rneed0_c (w : World) (b : Nat) (t : Tx) (L : List Nat) (h : rxR b t w L) : Calls Try.prog 27 #[.pointer (some ⟨b, 0, none⟩), .int .u64 0] w fun e w' => e = .returned (.int .u64 t.need) ∧ w = w' := by
  obtain ⟨v, M, hb, ho, hbM, rfl⟩ := h
  have hbl := hb.lt
  have b2 : w.cell? ⟨b, 11, none⟩ = some (.int .u64 t.need) := hb.cell 11
  have f2 := hb.free 11
  have HE : Hid (w.setCell ⟨b, 11, none⟩ (.int .u64 t.need) = w) := setCell_id2 hb b2
  have hmx : max (t.need : Int) 0 = (t.need : Int) := by omega
  clear hb ho
  go_enter Try.func27, Try.ntmps27
  go_wp2
  go_ret
  exact ⟨rfl, HE.out.symm⟩
theorem Top.rowSet {w0 w : World} {U : Res} [Keep U] {E : TypeId} {sz g n cap : Nat} {xs : List Value} (h : Top w0 (star (rowR E sz (.slice (some ⟨g, 0, none⟩) n cap) n xs) U) w) (k : Nat) (hk : k < n * sz) (u : Value) :
    Top w0 (star (rowR E sz (.slice (some ⟨g, 0, none⟩) n cap) n (xs.set k u)) U) (w.setCell ⟨g, k, none⟩ u) := by
  obtain ⟨L, ⟨L1, L2, h1, h2, rfl, hd⟩, hm, hf⟩ := h
  obtain ⟨rfl, _⟩ := Own.blk h1
  exact ⟨[g] ++ L2, ⟨[g], L2, Own.set h1 k hk u, Keep.mod h2 (M := [g]) ((Mod.refl _ _).setCell (by simp) _) (by intro k hk; simp; intro hb; exact hd g (by simp) (hb ▸ hk)), rfl, hd⟩, hm.setCell (Or.inr (hf g (by simp))) _, hf⟩
theorem Top.clone {w0 w w' : World} {R : Res} [Keep R] {l : List Rc} {e : Ending} (h : Top w0 R w) (s : OwnSays w l e w') : ∃ v, e = .returned v ∧ Top w0 (star (rowR 32 4 v l.length (flat rcC l)) R) w' := by
  obtain ⟨v, L, rfl, h1, h2, h3⟩ := s
  exact ⟨v, rfl, h.made h1 h2 h3⟩
/-- The cells of the document's transaction. -/
theorem rxR.cells {w : World} {b : Nat} {t : Tx} {L : List Nat} (h : rxR b t w L) : ∃ a cap, (w.cell? ⟨b, 0, none⟩ = some (.int .u64 t.ts) ∧ w.cell? ⟨b, 1, none⟩ = some (.int .i64 t.state) ∧ w.cell? ⟨b, 3, none⟩ = some (.bool t.under)) ∧ (w.cell? ⟨b, 4, none⟩ = some (.int .i64 t.call.kind) ∧ w.cell? ⟨b, 5, none⟩ = some (.int .u64 t.call.ts) ∧ w.cell? ⟨b, 6, none⟩ = some (.string t.call.key) ∧ w.cell? ⟨b, 7, none⟩ = some (.string t.call.hi) ∧ w.cell? ⟨b, 8, none⟩ = some (.string t.call.val)) ∧ w.cell? ⟨b, 10, none⟩ = some (.slice a t.ops.length cap) ∧ Lx 4 rcC w (.slice a t.ops.length cap) t.ops ∧ b < w.heap.size := by
  obtain ⟨v, M, hb, ho, hbM, rfl⟩ := h
  have hx := Own.lx rc_lays ho
  obtain ⟨a, cap, rfl, _⟩ := ho.val
  exact ⟨a, cap, ⟨hb.cell 0, hb.cell 1, hb.cell 3⟩, ⟨hb.cell 4, hb.cell 5, hb.cell 6, hb.cell 7, hb.cell 8⟩, hb.cell 10, hx, hb.lt⟩
theorem idle_i (w : World) (b : Nat) (t : Tx) (now : Nat) (z : Int) (hz : z = (now : Int)) (L : List Nat) (h : txR b t w L) (hnow : now < 18446744073709551616) : Calls Try.prog 28 #[.pointer (some ⟨b, 0, none⟩), .int .u64 z] w fun e w' => e = .returned (.bool (idleB t now)) ∧ w = w' := by
  subst hz; exact idle_c w b t now L h hnow
theorem ridle_i (w : World) (b : Nat) (t : Tx) (now : Nat) (z : Int) (hz : z = (now : Int)) (L : List Nat) (h : rxR b t w L) (hnow : now < 18446744073709551616) : Calls Try.prog 29 #[.pointer (some ⟨b, 0, none⟩), .int .u64 z] w fun e w' => e = .returned (.bool (idleB t now)) ∧ w = w' := by
  subst hz; exact ridle_c w b t now L h hnow
theorem needT_zero (t : Tx) : needT t 0 = t := by unfold needT; rw [Nat.max_zero]
theorem max_zero_int (n : Nat) : ((max n 0 : Nat) : Int) = (n : Int) := by rw [Nat.max_zero]

set_option maxRecDepth 100000 in
set_option maxHeartbeats 4000000 in
theorem plays_c (ts : Nat) (a : Option Addr) (cap : Nat) (xs : List Ac) (w : World) (hx : Lx 12 acC w (.slice a xs.length cap) xs) (hok : ∀ x ∈ xs, x.Ok) :
    Calls Try.prog 6 #[.int .u64 ts, .slice a xs.length cap] w fun e w' => e = .returned (.bool true) ∧ Mod [] w w' := by
  rcases Nat.eq_zero_or_pos ts with h0 | h0
  · subst h0
    clear hx hok
    go_enter Try.func6, Try.ntmps6
    go_wp2_with (first
      | (go_at_call 8; refine (new_nil _ 3).mono ?_; rintro e w' ⟨rfl, rfl⟩)
      | (go_at_call 9; refine (rnew_nil _ 3).mono ?_; rintro e w' ⟨rfl, rfl⟩)
      | (go_at_call 10; refine (works_c _).mono ?_; rintro e w' ⟨rfl, hm⟩; have Hm := hid hm; clear hm))
    go_ret
    exact ⟨rfl, Hm.out⟩
  · have HX := hid hx
    have HOk := hid hok
    have hlen := hx.len.2
    clear hx hok
    have hts : ts ≠ 0 := by omega
    have HT := hid (Top.start w)
    go_enter Try.func6, Try.ntmps6
    go_wp2_with fail
    refine (new_c w ts 3 hts).mono ?_
    intro e w1 hs
    obtain ⟨rfl, hT1⟩ := HT.out.new hs
    have HT1 := hid hT1
    clear hT1 hs HT
    generalize w.heap.size = b at *
    go_wp2_with fail
    refine (rnew_c w1 ts 3 hts).mono ?_
    intro e w2 hs
    obtain ⟨rfl, hT2⟩ := HT1.out.new hs
    have HT2 := hid hT2.swap
    clear hT2 hs HT1
    generalize w1.heap.size = b' at *
    go_wp2
    have hk0 : Kr (tx0 ts 3).ops := Kr.nil
    have hl0 : (tx0 ts 3).ops.length ≤ 0 := Nat.le_refl _
    have hc0 : (tx0 ts 3).calls ≤ 0 := Nat.le_refl _
    generalize tx0 ts 3 = t0 at *
    go_loopg [5, 8] (min xs.length 60) (fun g n p wr => ∃ (i now : Nat) (t : Tx), n = .int .u64 now ∧ p = .int .i64 i ∧ i + g = min xs.length 60 ∧ now ≤ 3 + 20 * i ∧ Hid (Kr t.ops) ∧ t.ops.length ≤ i ∧ t.calls ≤ i ∧ Hid (Top w (star (txR b t) (star (rxR b' t) emp)) wr))
    · exact ⟨0, 3, t0, rfl, rfl, by omega, by omega, hk0, by omega, by omega, HT2.out⟩
    · obtain ⟨i, now, t, rfl, rfl, hi, hnow, hK, hl, hc, hT⟩ := hrel
      by_cases hlt : i < min xs.length 60
      · have hl1 : (i : Int) < (xs.length : Int) := by omega
        have hl2 : (i : Int) < 60 := by omega
        have hi0 : (0 : Int) ≤ (i : Int) := by omega
        obtain ⟨x, hx⟩ : ∃ x, xs[i]? = some x := ⟨_, List.getElem?_eq_getElem (by omega)⟩
        have hxo := hid (HOk.out x (List.mem_of_getElem? hx))
        obtain ⟨ab, off, rfl, hcs⟩ := (HX.out.mod hT.out.m).at hx
        have c0 := hcs 0 _ rfl
        have c1 := hcs 1 _ rfl
        have c2 := hcs 2 _ rfl
        have c3 := hcs 3 _ rfl
        have c4 := hcs 4 _ rfl
        have c5 := hcs 5 _ rfl
        have c6 := hcs 6 _ rfl
        have c7 := hcs 7 _ rfl
        have c8 := hcs 8 _ rfl
        have c9 := hcs 9 _ rfl
        have c10 := hcs 10 _ rfl
        have c11 := hcs 11 _ rfl
        simp only [Nat.add_zero] at c0
        have Hx := hid hx
        clear hx hcs
        go_upto_region 9 with (fail)
        obtain ⟨m, hm⟩ : ∃ m, m = now + x.n % 20 := ⟨_, rfl⟩
        rw [show (now : Int) + (x.n : Int) % 20 = (m : Int) by omega]
        have hm1 : m ≤ 3 + 20 * (i + 1) := by omega
        clear hm
        have hli := hid (doT_inv t x m hK.out)
        go_wp2_with fail
        refine (do_c w wr b b' t x m emp hT.out hK.out (by omega) (by omega) hxo.out).mono ?_
        rintro e w3 ⟨rfl, hT3⟩
        obtain ⟨hk2, hl2', hc2⟩ := hli.out
        have hl3 : (doT t x m).ops.length ≤ i + 1 := by omega
        have hc3 : (doT t x m).calls ≤ i + 1 := by omega
        have HK2 := hid hk2
        have HT3 := hid hT3
        clear hT3 hli hk2 hl2' hc2 hl hc hK hT
        generalize doT t x m = u at *
        clear c0 c1 c2 c3 c4 c5 c7 c8 c9 c10 c11 c6
        -- what is told
        obtain ⟨Lt, ht⟩ := HT3.out.res
        go_upto_region 11 with (fail)
        go_wp2_with fail
        rcases hu : u.under with _ | _
        · as_aux_lemma =>
          refine (pending_c w3 b u Lt ht).mono ?_
          simp only [hu, Bool.false_eq_true, if_false]
          rintro e w4 ⟨rfl, hm4⟩
          have hT5 := (HT3.out.mod hm4).box (clC cl0) 24
          have HT5 := hid hT5
          clear ht HT3 hm4
          obtain ⟨Lt, ht⟩ := HT5.out.drop.res
          obtain ⟨Lr, hr⟩ := HT5.out.drop.drop.res
          obtain ⟨ra, rcap, ⟨g0, g1, g3⟩, ⟨g4, g5, g6, g7, g8⟩, g10, hlx, hbl'⟩ := hr.cells
          have HLx := hid hlx
          have Ht := hid ht
          have Hr := hid hr
          have c6w : (w4.alloc (.cells (clC cl0) 24)).cell? ⟨ab, off + i * 12 + 6, none⟩ = some (.int .u64 x.n) := by
            obtain ⟨ab', off', e0, hcw⟩ := (HX.out.mod HT5.out.m).at Hx.out
            simp only [Option.some.injEq, Addr.mk.injEq, and_true] at e0
            obtain ⟨rfl, rfl⟩ := e0
            exact hcw 6 _ rfl
          have hBc := HT5.out.get
          have e0 := hBc.cell 0
          have e1 := hBc.cell 1
          have e2 := hBc.cell 2
          have e3 := hBc.cell 3
          have e4 := hBc.cell 4
          have hql := hBc.lt
          have hgc := call_g
          have hn1 := call_neq u.call
          have hn2 := call_neq (cl0)
          clear hlx ht hr hBc
          rw [hu] at g3
          have Hu := hid hu
          clear hu
          simp only [List.getElem?_toArray, List.getElem?_cons_zero, List.getElem?_cons_succ] at e0 e1 e2 e3 e4
          go_upto_region 12 with (fail)
          dsimp only [List.append]
          generalize w4.alloc (.cells (clC cl0) 24) = W5 at *
          generalize w4.heap.size = q at *
          have HL_g0 : ∀ w, Mod [] W5 w → (Instr.loadAt 22 (.pointer (some ⟨b', 0, none⟩))).run Try.prog w = .ok (.int .u64 (u.ts : Nat)) w := fun w h => run_load_u (h.cellSome g0 (by simp))
          have HL_g1 : ∀ w, Mod [] W5 w → (Instr.loadAt 3 (.pointer (some ⟨b', 1, none⟩))).run Try.prog w = .ok (.int .i64 (u.state : Nat)) w := fun w h => run_load_i (h.cellSome g1 (by simp))
          have HL_g3 : ∀ w, Mod [] W5 w → (Instr.loadAt 4 (.pointer (some ⟨b', 3, none⟩))).run Try.prog w = .ok (.bool false) w := fun w h => run_load_b (h.cellSome g3 (by simp))
          have HL_gc : ∀ w, Mod [] W5 w → (Instr.loadAt 24 (.pointer (some ⟨b', 4, none⟩))).run Try.prog w = .ok (clV u.call) w := fun w h => run_load_call (h.cellSome g4 (by simp)) (h.cellSome g5 (by simp)) (h.cellSome g6 (by simp)) (h.cellSome g7 (by simp)) (h.cellSome g8 (by simp))
          have HL_g10 : ∀ w, Mod [] W5 w → (Instr.loadAt 39 (.pointer (some ⟨b', 10, none⟩))).run Try.prog w = .ok (.slice ra u.ops.length rcap) w := fun w h => run_load_s (h.cellSome g10 (by simp))
          have HL_cx : ∀ w, Mod [] W5 w → (Instr.loadAt 22 (.pointer (some ⟨ab, off + i * 12 + 6, none⟩))).run Try.prog w = .ok (.int .u64 (x.n : Nat)) w := fun w h => run_load_u (h.cellSome c6w (by simp))
          have HL_qc : ∀ w, Mod [] W5 w → (Instr.loadAt 24 (.pointer (some ⟨q, 0, none⟩))).run Try.prog w = .ok (clV (cl0)) w := fun w h => run_load_call (h.cellSome e0 (by simp)) (h.cellSome e1 (by simp)) (h.cellSome e2 (by simp)) (h.cellSome e3 (by simp)) (h.cellSome e4 (by simp))
          clear e0 e1 e2 e3 e4 g0 g1 g3 g4 g5 g6 g7 g8 g10 c6w
          refine wp_hopz_block (s := 46) 66 (fun z => [.pointer (some ⟨b, 0, none⟩), .int .u64 (u.ts : Nat), .pointer (some ⟨b', 0, none⟩), .pointer (some ⟨b', 0, none⟩), .pointer (some ⟨b', 0, none⟩), .int .u64 (u.ts : Nat), .bool false, .bool false, .pointer (some ⟨b, 0, none⟩), .int .i64 (u.state : Nat), .pointer (some ⟨b', 0, none⟩), .pointer (some ⟨b', 0, none⟩), .pointer (some ⟨b', 1, none⟩), .int .i64 (u.state : Nat), .bool false, .bool false, .bool false, .bool false, .pointer (some ⟨b', 0, none⟩), .pointer (some ⟨b', 0, none⟩), .pointer (some ⟨b', 3, none⟩), .bool false, .bool false, .bool false, .bool false, .bool false, .bool false, undef, undef, undef, undef, undef, undef, .bool false, .bool false, .bool false, .bool false, .bool true, .bool true, clV (cl0), clV cl0, .bool false, .bool false, .bool false, .bool false, .pointer (some ⟨b, 0, none⟩), z, .pointer (some ⟨b', 0, none⟩), .pointer (some ⟨b', 0, none⟩), .pointer (some ⟨b', 10, none⟩), .slice ra u.ops.length rcap, .bool true, .bool false, .bool false, .bool false, .pointer (some ⟨b, 0, none⟩), .int .u64 (u.need : Nat), .pointer (some ⟨b', 0, none⟩), .int .u64 (u.need : Nat), .bool false, .bool false, .bool false, .pointer (some ⟨b, 0, none⟩), .int .u64 (m : Nat), .bool (idleB u (m)), .pointer (some ⟨b', 0, none⟩), .int .u64 (m : Nat), .bool (idleB u (m)), .bool false, .bool false, .bool false, .pointer (some ⟨b, 0, none⟩), .int .u64 (m : Nat), .int .u64 (m + 64 : Nat), .bool (idleB u (m + 64)), .pointer (some ⟨b', 0, none⟩), .int .u64 (m : Nat), .int .u64 (m + 64 : Nat), .bool (idleB u (m + 64)), .bool false, .bool false, .bool false, .pointer (some ⟨b, 0, none⟩), .int .u64 (m : Nat), .slice (some ⟨ab, off, none⟩) xs.length cap, .int .i64 (i : Nat), .pointer (some ⟨ab, off + i * 12, none⟩), .pointer (some ⟨ab, off + i * 12 + 6, none⟩), .int .u64 (x.n : Nat), .int .u64 (x.n % 70 : Nat), .int .u64 (m + x.n % 70 : Nat), .bool (idleB u (m + x.n % 70)), .pointer (some ⟨b', 0, none⟩), .int .u64 (m : Nat), .slice (some ⟨ab, off, none⟩) xs.length cap, .int .i64 (i : Nat), .pointer (some ⟨ab, off + i * 12, none⟩), .pointer (some ⟨ab, off + i * 12 + 6, none⟩), .int .u64 (x.n : Nat), .int .u64 (x.n % 70 : Nat), .int .u64 (m + x.n % 70 : Nat), .bool (idleB u (m + x.n % 70)), .bool false, .bool false]) (fun X => Mod [] W5 X) (fun z X => ∃ L, Own X 32 4 z u.ops.length (flat rcC u.ops) L) (fun z ix => if (ix == 46) = true then z else nthV [.pointer (some ⟨b, 0, none⟩), .int .u64 (u.ts : Nat), .pointer (some ⟨b', 0, none⟩), .pointer (some ⟨b', 0, none⟩), .pointer (some ⟨b', 0, none⟩), .int .u64 (u.ts : Nat), .bool false, .bool false, .pointer (some ⟨b, 0, none⟩), .int .i64 (u.state : Nat), .pointer (some ⟨b', 0, none⟩), .pointer (some ⟨b', 0, none⟩), .pointer (some ⟨b', 1, none⟩), .int .i64 (u.state : Nat), .bool false, .bool false, .bool false, .bool false, .pointer (some ⟨b', 0, none⟩), .pointer (some ⟨b', 0, none⟩), .pointer (some ⟨b', 3, none⟩), .bool false, .bool false, .bool false, .bool false, .bool false, .bool false, undef, undef, undef, undef, undef, undef, .bool false, .bool false, .bool false, .bool false, .bool true, .bool true, clV (cl0), clV cl0, .bool false, .bool false, .bool false, .bool false, .pointer (some ⟨b, 0, none⟩), undef, .pointer (some ⟨b', 0, none⟩), .pointer (some ⟨b', 0, none⟩), .pointer (some ⟨b', 10, none⟩), .slice ra u.ops.length rcap, .bool true, .bool false, .bool false, .bool false, .pointer (some ⟨b, 0, none⟩), .int .u64 (u.need : Nat), .pointer (some ⟨b', 0, none⟩), .int .u64 (u.need : Nat), .bool false, .bool false, .bool false, .pointer (some ⟨b, 0, none⟩), .int .u64 (m : Nat), .bool (idleB u (m)), .pointer (some ⟨b', 0, none⟩), .int .u64 (m : Nat), .bool (idleB u (m)), .bool false, .bool false, .bool false, .pointer (some ⟨b, 0, none⟩), .int .u64 (m : Nat), .int .u64 (m + 64 : Nat), .bool (idleB u (m + 64)), .pointer (some ⟨b', 0, none⟩), .int .u64 (m : Nat), .int .u64 (m + 64 : Nat), .bool (idleB u (m + 64)), .bool false, .bool false, .bool false, .pointer (some ⟨b, 0, none⟩), .int .u64 (m : Nat), .slice (some ⟨ab, off, none⟩) xs.length cap, .int .i64 (i : Nat), .pointer (some ⟨ab, off + i * 12, none⟩), .pointer (some ⟨ab, off + i * 12 + 6, none⟩), .int .u64 (x.n : Nat), .int .u64 (x.n % 70 : Nat), .int .u64 (m + x.n % 70 : Nat), .bool (idleB u (m + x.n % 70)), .pointer (some ⟨b', 0, none⟩), .int .u64 (m : Nat), .slice (some ⟨ab, off, none⟩) xs.length cap, .int .i64 (i : Nat), .pointer (some ⟨ab, off + i * 12, none⟩), .pointer (some ⟨ab, off + i * 12 + 6, none⟩), .int .u64 (x.n : Nat), .int .u64 (x.n % 70 : Nat), .int .u64 (m + x.n % 70 : Nat), .bool (idleB u (m + x.n % 70)), .bool false, .bool false] ix) (by kernel_rfl) (by kernel_rfl) (by kernel_rfl) (Nat.le_of_ble_eq_true (by kernel_rfl)) (by kernel_rfl) (Nat.le_of_ble_eq_true (by kernel_rfl)) (fun z => by kernel_rfl) ?hV ?hG (Mod.refl [] W5).drew ?hop ?hQ
          case hV =>
            intro z z' j hj
            show (if (j == 46) = true then z else _) = (if (j == 46) = true then z' else _)
            rw [if_neg (by simpa using hj), if_neg (by simpa using hj)]
          case hG =>
            rintro z w w' hm ⟨L, hL⟩
            exact ⟨L, hL.mod hm (by simp)⟩
          case hop =>
            refine Each.cons (m := 1) rfl (HopZ.of rfl (fun z E => HopAt.move (v := .pointer (some ⟨b, 0, none⟩)) (Want.none rfl) rfl (Ev.free (by kernel_rfl) (by kernel_rfl)) (by kernel_rfl))) ?_
            refine Each.cons (m := 2) rfl (HopZ.of rfl (fun z E => HopAt.call (f := 24) (args := #[.pointer (some ⟨b, 0, none⟩)]) (Want.none rfl) (fun a w hk _ => run_call_24 rfl rfl ((Ev.dep 0 (by kernel_rfl) (by kernel_rfl)) a hk)) (fun w h => (ts_c w b u _ (Keep.mod Ht.out h.1 (by simp))).mono (fun e w' h' => by obtain ⟨rfl, rfl⟩ := h'; exact ⟨by kernel_rfl, h⟩)))) ?_
            refine Each.cons (m := 3) rfl (HopZ.of rfl (fun z E => HopAt.move (v := .pointer (some ⟨b', 0, none⟩)) (Want.none rfl) rfl (Ev.free (by kernel_rfl) (by kernel_rfl)) (by kernel_rfl))) ?_
            refine Each.cons (m := 4) rfl (HopZ.of rfl (fun z E => HopAt.nil (p := ⟨b', 0, none⟩) (Want.none rfl) rfl (Ev.dep 2 (by kernel_rfl) (by kernel_rfl)) (by kernel_rfl))) ?_
            refine Each.cons (m := 5) rfl (HopZ.of rfl (fun z E => HopAt.field (v := .pointer (some ⟨b', 0, none⟩)) (r := .pointer (some ⟨b', 0, none⟩)) (Want.none rfl) rfl (Ev.dep 3 (by kernel_rfl) (by kernel_rfl)) (fun w => rfl) (by kernel_rfl))) ?_
            refine Each.cons (m := 6) rfl (HopZ.of rfl (fun z E => HopAt.load (v := .pointer (some ⟨b', 0, none⟩)) (r := .int .u64 (u.ts : Nat)) (Want.none rfl) rfl (Ev.dep 4 (by kernel_rfl) (by kernel_rfl)) (fun w h => HL_g0 w h.1) (by kernel_rfl))) ?_
            refine Each.cons (m := 7) rfl (HopZ.of rfl (fun z E => HopAt.bin (u := .int .u64 (u.ts : Nat)) (v := .int .u64 (u.ts : Nat)) (r := .bool false) (Want.none rfl) rfl (Ev.dep 1 (by kernel_rfl) (by kernel_rfl)) (Ev.dep 5 (by kernel_rfl) (by kernel_rfl)) (fun w _ => run_neqI) (by kernel_rfl))) ?_
            refine Each.cons (m := 8) rfl (HopZ.of rfl (fun z E => HopAt.move (v := .bool false) (Want.none rfl) rfl (Ev.dep 6 (by kernel_rfl) (by kernel_rfl)) (by kernel_rfl))) ?_
            refine Each.cons (m := 9) rfl (HopZ.of rfl (fun z E => HopAt.move (v := .pointer (some ⟨b, 0, none⟩)) (Want.some (d := 73) (z' := false) 7 rfl (by kernel_rfl) (by kernel_rfl) rfl) rfl (Ev.free (by kernel_rfl) (by kernel_rfl)) (by kernel_rfl))) ?_
            refine Each.cons (m := 10) rfl (HopZ.of rfl (fun z E => HopAt.call (f := 14) (args := #[.pointer (some ⟨b, 0, none⟩)]) (Want.some (d := 73) (z' := false) 7 rfl (by kernel_rfl) (by kernel_rfl) rfl) (fun a w hk _ => run_call_14 rfl rfl ((Ev.dep 8 (by kernel_rfl) (by kernel_rfl)) a hk)) (fun w h => (state_c w b u _ (Keep.mod Ht.out h.1 (by simp))).mono (fun e w' h' => by obtain ⟨rfl, rfl⟩ := h'; exact ⟨by kernel_rfl, h⟩)))) ?_
            refine Each.cons (m := 11) rfl (HopZ.of rfl (fun z E => HopAt.move (v := .pointer (some ⟨b', 0, none⟩)) (Want.some (d := 73) (z' := false) 7 rfl (by kernel_rfl) (by kernel_rfl) rfl) rfl (Ev.free (by kernel_rfl) (by kernel_rfl)) (by kernel_rfl))) ?_
            refine Each.cons (m := 12) rfl (HopZ.of rfl (fun z E => HopAt.nil (p := ⟨b', 0, none⟩) (Want.some (d := 73) (z' := false) 7 rfl (by kernel_rfl) (by kernel_rfl) rfl) rfl (Ev.dep 10 (by kernel_rfl) (by kernel_rfl)) (by kernel_rfl))) ?_
            refine Each.cons (m := 13) rfl (HopZ.of rfl (fun z E => HopAt.field (v := .pointer (some ⟨b', 0, none⟩)) (r := .pointer (some ⟨b', 1, none⟩)) (Want.some (d := 73) (z' := false) 7 rfl (by kernel_rfl) (by kernel_rfl) rfl) rfl (Ev.dep 11 (by kernel_rfl) (by kernel_rfl)) (fun w => rfl) (by kernel_rfl))) ?_
            refine Each.cons (m := 14) rfl (HopZ.of rfl (fun z E => HopAt.load (v := .pointer (some ⟨b', 1, none⟩)) (r := .int .i64 (u.state : Nat)) (Want.some (d := 73) (z' := false) 7 rfl (by kernel_rfl) (by kernel_rfl) rfl) rfl (Ev.dep 12 (by kernel_rfl) (by kernel_rfl)) (fun w h => HL_g1 w h.1) (by kernel_rfl))) ?_
            refine Each.cons (m := 15) rfl (HopZ.of rfl (fun z E => HopAt.bin (u := .int .i64 (u.state : Nat)) (v := .int .i64 (u.state : Nat)) (r := .bool false) (Want.some (d := 73) (z' := false) 7 rfl (by kernel_rfl) (by kernel_rfl) rfl) rfl (Ev.dep 9 (by kernel_rfl) (by kernel_rfl)) (Ev.dep 13 (by kernel_rfl) (by kernel_rfl)) (fun w _ => run_neqI) (by kernel_rfl))) ?_
            refine Each.cons (m := 16) rfl (HopZ.of rfl (fun z E => HopAt.pick (z := false) (v := undef) (u := .bool false) (Want.none rfl) rfl (Ev.dep 7 (by kernel_rfl) (by kernel_rfl)) (fun h => by cases h) (fun _ => (Ev.dep 14 (by kernel_rfl) (by kernel_rfl))) (by kernel_rfl))) ?_
            refine Each.cons (m := 17) rfl (HopZ.of rfl (fun z E => HopAt.move (v := .bool false) (Want.none rfl) rfl (Ev.dep 15 (by kernel_rfl) (by kernel_rfl)) (by kernel_rfl))) ?_
            refine Each.cons (m := 18) rfl (HopZ.of rfl (fun z E => HopAt.move (v := .bool false) (Want.some (d := 82) (z' := false) 16 rfl (by kernel_rfl) (by kernel_rfl) rfl) rfl (Ev.free (by kernel_rfl) (by kernel_rfl)) (by kernel_rfl))) ?_
            refine Each.cons (m := 19) rfl (HopZ.of rfl (fun z E => HopAt.move (v := .pointer (some ⟨b', 0, none⟩)) (Want.some (d := 82) (z' := false) 16 rfl (by kernel_rfl) (by kernel_rfl) rfl) rfl (Ev.free (by kernel_rfl) (by kernel_rfl)) (by kernel_rfl))) ?_
            refine Each.cons (m := 20) rfl (HopZ.of rfl (fun z E => HopAt.nil (p := ⟨b', 0, none⟩) (Want.some (d := 82) (z' := false) 16 rfl (by kernel_rfl) (by kernel_rfl) rfl) rfl (Ev.dep 18 (by kernel_rfl) (by kernel_rfl)) (by kernel_rfl))) ?_
            refine Each.cons (m := 21) rfl (HopZ.of rfl (fun z E => HopAt.field (v := .pointer (some ⟨b', 0, none⟩)) (r := .pointer (some ⟨b', 3, none⟩)) (Want.some (d := 82) (z' := false) 16 rfl (by kernel_rfl) (by kernel_rfl) rfl) rfl (Ev.dep 19 (by kernel_rfl) (by kernel_rfl)) (fun w => rfl) (by kernel_rfl))) ?_
            refine Each.cons (m := 22) rfl (HopZ.of rfl (fun z E => HopAt.load (v := .pointer (some ⟨b', 3, none⟩)) (r := .bool false) (Want.some (d := 82) (z' := false) 16 rfl (by kernel_rfl) (by kernel_rfl) rfl) rfl (Ev.dep 20 (by kernel_rfl) (by kernel_rfl)) (fun w h => HL_g3 w h.1) (by kernel_rfl))) ?_
            refine Each.cons (m := 23) rfl (HopZ.of rfl (fun z E => HopAt.bin (u := .bool false) (v := .bool false) (r := .bool false) (Want.some (d := 82) (z' := false) 16 rfl (by kernel_rfl) (by kernel_rfl) rfl) rfl (Ev.dep 17 (by kernel_rfl) (by kernel_rfl)) (Ev.dep 21 (by kernel_rfl) (by kernel_rfl)) (fun w _ => run_neqB) (by kernel_rfl))) ?_
            refine Each.cons (m := 24) rfl (HopZ.of rfl (fun z E => HopAt.pick (z := false) (v := undef) (u := .bool false) (Want.none rfl) rfl (Ev.dep 16 (by kernel_rfl) (by kernel_rfl)) (fun h => by cases h) (fun _ => (Ev.dep 22 (by kernel_rfl) (by kernel_rfl))) (by kernel_rfl))) ?_
            refine Each.cons (m := 25) rfl (HopZ.of rfl (fun z E => HopAt.move (v := .bool false) (Want.none rfl) rfl (Ev.dep 23 (by kernel_rfl) (by kernel_rfl)) (by kernel_rfl))) ?_
            refine Each.cons (m := 26) rfl (HopZ.of rfl (fun z E => HopAt.move (v := .bool false) (Want.some (d := 90) (z' := false) 24 rfl (by kernel_rfl) (by kernel_rfl) rfl) rfl (Ev.free (by kernel_rfl) (by kernel_rfl)) (by kernel_rfl))) ?_
            refine Each.cons (m := 27) rfl (HopZ.of rfl (fun z E => HopAt.move (v := .bool false) (Want.some (d := 90) (z' := false) 24 rfl (by kernel_rfl) (by kernel_rfl) rfl) rfl (Ev.dep 25 (by kernel_rfl) (by kernel_rfl)) (by kernel_rfl))) ?_
            refine Each.cons (m := 28) rfl (HopZ.of rfl (fun z E => HopAt.no (Want.some (d := 92) (z' := false) 26 rfl (by kernel_rfl) (by kernel_rfl) rfl) (by kernel_rfl))) ?_
            refine Each.cons (m := 29) rfl (HopZ.of rfl (fun z E => HopAt.no (Want.some (d := 92) (z' := false) 26 rfl (by kernel_rfl) (by kernel_rfl) rfl) (by kernel_rfl))) ?_
            refine Each.cons (m := 30) rfl (HopZ.of rfl (fun z E => HopAt.no (Want.some (d := 92) (z' := false) 26 rfl (by kernel_rfl) (by kernel_rfl) rfl) (by kernel_rfl))) ?_
            refine Each.cons (m := 31) rfl (HopZ.of rfl (fun z E => HopAt.no (Want.some (d := 92) (z' := false) 26 rfl (by kernel_rfl) (by kernel_rfl) rfl) (by kernel_rfl))) ?_
            refine Each.cons (m := 32) rfl (HopZ.of rfl (fun z E => HopAt.no (Want.some (d := 92) (z' := false) 26 rfl (by kernel_rfl) (by kernel_rfl) rfl) (by kernel_rfl))) ?_
            refine Each.cons (m := 33) rfl (HopZ.of rfl (fun z E => HopAt.no (Want.some (d := 92) (z' := false) 26 rfl (by kernel_rfl) (by kernel_rfl) rfl) (by kernel_rfl))) ?_
            refine Each.cons (m := 34) rfl (HopZ.of rfl (fun z E => HopAt.pick (z := false) (v := undef) (u := .bool false) (Want.some (d := 90) (z' := false) 24 rfl (by kernel_rfl) (by kernel_rfl) rfl) rfl (Ev.dep 26 (by kernel_rfl) (by kernel_rfl)) (fun h => by cases h) (fun _ => Ev.const) (by kernel_rfl))) ?_
            refine Each.cons (m := 35) rfl (HopZ.of rfl (fun z E => HopAt.pick (z := false) (v := undef) (u := .bool false) (Want.none rfl) rfl (Ev.dep 24 (by kernel_rfl) (by kernel_rfl)) (fun h => by cases h) (fun _ => (Ev.dep 33 (by kernel_rfl) (by kernel_rfl))) (by kernel_rfl))) ?_
            refine Each.cons (m := 36) rfl (HopZ.of rfl (fun z E => HopAt.move (v := .bool false) (Want.none rfl) rfl (Ev.dep 34 (by kernel_rfl) (by kernel_rfl)) (by kernel_rfl))) ?_
            refine Each.cons (m := 37) rfl (HopZ.of rfl (fun z E => HopAt.move (v := .bool false) (Want.some (d := 101) (z' := false) 35 rfl (by kernel_rfl) (by kernel_rfl) rfl) rfl (Ev.free (by kernel_rfl) (by kernel_rfl)) (by kernel_rfl))) ?_
            refine Each.cons (m := 38) rfl (HopZ.of rfl (fun z E => HopAt.un (v := .bool false) (r := .bool true) (Want.some (d := 101) (z' := false) 35 rfl (by kernel_rfl) (by kernel_rfl) rfl) rfl (Ev.dep 36 (by kernel_rfl) (by kernel_rfl)) (fun w => rfl) (by kernel_rfl))) ?_
            refine Each.cons (m := 39) rfl (HopZ.of rfl (fun z E => HopAt.move (v := .bool true) (Want.some (d := 101) (z' := false) 35 rfl (by kernel_rfl) (by kernel_rfl) rfl) rfl (Ev.dep 37 (by kernel_rfl) (by kernel_rfl)) (by kernel_rfl))) ?_
            refine Each.cons (m := 40) rfl (HopZ.of rfl (fun z E => HopAt.load (v := .pointer (some ⟨q, 0, none⟩)) (r := clV (cl0)) (Want.some (d := 104) (z' := true) 38 rfl (by kernel_rfl) (by kernel_rfl) rfl) rfl (Ev.free (by kernel_rfl) (by kernel_rfl)) (fun w h => HL_qc w h.1) (by kernel_rfl))) ?_
            refine Each.cons (m := 41) rfl (HopZ.of rfl (fun z E => HopAt.run (Want.some (d := 104) (z' := true) 38 rfl (by kernel_rfl) (by kernel_rfl) rfl) (fun a w _ h => ⟨w, run_build0 rfl, h⟩))) ?_
            refine Each.cons (m := 42) rfl (HopZ.of rfl (fun z E => HopAt.bin (u := clV (cl0)) (v := clV cl0) (r := .bool false) (Want.some (d := 104) (z' := true) 38 rfl (by kernel_rfl) (by kernel_rfl) rfl) rfl (Ev.dep 39 (by kernel_rfl) (by kernel_rfl)) (Ev.dep 40 (by kernel_rfl) (by kernel_rfl)) (fun w _ => (run_call_neq _)) (by kernel_rfl))) ?_
            refine Each.cons (m := 43) rfl (HopZ.of rfl (fun z E => HopAt.pick (z := true) (v := .bool false) (u := undef) (Want.some (d := 101) (z' := false) 35 rfl (by kernel_rfl) (by kernel_rfl) rfl) rfl (Ev.dep 38 (by kernel_rfl) (by kernel_rfl)) (fun _ => (Ev.dep 41 (by kernel_rfl) (by kernel_rfl))) (fun h => by cases h) (by kernel_rfl))) ?_
            refine Each.cons (m := 44) rfl (HopZ.of rfl (fun z E => HopAt.pick (z := false) (v := undef) (u := .bool false) (Want.none rfl) rfl (Ev.dep 35 (by kernel_rfl) (by kernel_rfl)) (fun h => by cases h) (fun _ => (Ev.dep 42 (by kernel_rfl) (by kernel_rfl))) (by kernel_rfl))) ?_
            refine Each.cons (m := 45) rfl (HopZ.of rfl (fun z E => HopAt.move (v := .bool false) (Want.none rfl) rfl (Ev.dep 43 (by kernel_rfl) (by kernel_rfl)) (by kernel_rfl))) ?_
            refine Each.cons (m := 46) rfl (HopZ.of rfl (fun z E => HopAt.move (v := .pointer (some ⟨b, 0, none⟩)) (Want.some (d := 110) (z' := false) 44 rfl (by kernel_rfl) (by kernel_rfl) rfl) rfl (Ev.free (by kernel_rfl) (by kernel_rfl)) (by kernel_rfl))) ?_
            refine Each.cons (m := 47) rfl (HopZ.here rfl (fun z => (Want.some (d := 110) (z' := false) 44 rfl (by kernel_rfl) (by kernel_rfl) rfl)) (f := 17) (args := #[.pointer (some ⟨b, 0, none⟩)]) (fun z a w hk => run_call_17 rfl rfl ((Ev.dep 45 (by kernel_rfl) (by kernel_rfl)) a hk)) (fun z => by kernel_rfl) (fun w h => (ops_c w b u _ (Keep.mod Ht.out h (by simp)) (by omega)).mono (fun e w' h' => by obtain ⟨v, L, rfl, h1, h2, _⟩ := h'; exact ⟨v, rfl, h.tr h2, L, h1⟩))) ?_
            refine Each.cons (m := 48) rfl (HopZ.of rfl (fun z E => HopAt.move (v := .pointer (some ⟨b', 0, none⟩)) (Want.some (d := 110) (z' := false) 44 rfl (by kernel_rfl) (by kernel_rfl) rfl) rfl (Ev.free (by kernel_rfl) (by kernel_rfl)) (by kernel_rfl))) ?_
            refine Each.cons (m := 49) rfl (HopZ.of rfl (fun z E => HopAt.nil (p := ⟨b', 0, none⟩) (Want.some (d := 110) (z' := false) 44 rfl (by kernel_rfl) (by kernel_rfl) rfl) rfl (Ev.dep 47 (by kernel_rfl) (by kernel_rfl)) (by kernel_rfl))) ?_
            refine Each.cons (m := 50) rfl (HopZ.of rfl (fun z E => HopAt.field (v := .pointer (some ⟨b', 0, none⟩)) (r := .pointer (some ⟨b', 10, none⟩)) (Want.some (d := 110) (z' := false) 44 rfl (by kernel_rfl) (by kernel_rfl) rfl) rfl (Ev.dep 48 (by kernel_rfl) (by kernel_rfl)) (fun w => rfl) (by kernel_rfl))) ?_
            refine Each.cons (m := 51) rfl (HopZ.of rfl (fun z E => HopAt.load (v := .pointer (some ⟨b', 10, none⟩)) (r := .slice ra u.ops.length rcap) (Want.some (d := 110) (z' := false) 44 rfl (by kernel_rfl) (by kernel_rfl) rfl) rfl (Ev.dep 49 (by kernel_rfl) (by kernel_rfl)) (fun w h => HL_g10 w h.1) (by kernel_rfl))) ?_
            refine Each.cons (m := 52) rfl (HopZ.need rfl (by kernel_rfl) (fun z E hEG hEm => HopAt.call (f := 25) (args := #[z, .slice ra u.ops.length rcap]) (Want.some (d := 110) (z' := false) 44 rfl (by kernel_rfl) (by kernel_rfl) rfl) (fun a w hk _ => run_call_25 rfl rfl ((Ev.dep 46 (by kernel_rfl) (by kernel_rfl)) a hk) ((Ev.dep 50 (by kernel_rfl) (by kernel_rfl)) a hk)) (fun w h => by
                obtain ⟨La, hO⟩ := hEG w h.2
                refine (recs_c w z (.slice ra u.ops.length rcap) u.ops (Own.lx rc_lays hO) (HLx.out.mod h.1)).mono ?_
                rintro e w' ⟨rfl, hm⟩
                exact ⟨by kernel_rfl, h.1.tr hm, hEm _ _ hm h.2⟩))) ?_
            refine Each.cons (m := 53) rfl (HopZ.of rfl (fun z E => HopAt.un (v := .bool true) (r := .bool false) (Want.some (d := 110) (z' := false) 44 rfl (by kernel_rfl) (by kernel_rfl) rfl) rfl (Ev.dep 51 (by kernel_rfl) (by kernel_rfl)) (fun w => rfl) (by kernel_rfl))) ?_
            refine Each.cons (m := 54) rfl (HopZ.of rfl (fun z E => HopAt.pick (z := false) (v := undef) (u := .bool false) (Want.none rfl) rfl (Ev.dep 44 (by kernel_rfl) (by kernel_rfl)) (fun h => by cases h) (fun _ => (Ev.dep 52 (by kernel_rfl) (by kernel_rfl))) (by kernel_rfl))) ?_
            refine Each.cons (m := 55) rfl (HopZ.of rfl (fun z E => HopAt.move (v := .bool false) (Want.none rfl) rfl (Ev.dep 53 (by kernel_rfl) (by kernel_rfl)) (by kernel_rfl))) ?_
            refine Each.cons (m := 56) rfl (HopZ.of rfl (fun z E => HopAt.move (v := .pointer (some ⟨b, 0, none⟩)) (Want.some (d := 120) (z' := false) 54 rfl (by kernel_rfl) (by kernel_rfl) rfl) rfl (Ev.free (by kernel_rfl) (by kernel_rfl)) (by kernel_rfl))) ?_
            refine Each.cons (m := 57) rfl (HopZ.of rfl (fun z E => HopAt.call (f := 26) (args := #[.pointer (some ⟨b, 0, none⟩), .int .u64 0]) (Want.some (d := 120) (z' := false) 54 rfl (by kernel_rfl) (by kernel_rfl) rfl) (fun a w hk _ => run_call_26 rfl rfl ((Ev.dep 55 (by kernel_rfl) (by kernel_rfl)) a hk) (Ev.const a hk)) (fun w h => (need0_c w b u _ (Keep.mod Ht.out h.1 (by simp))).mono (fun e w' h' => by obtain ⟨rfl, rfl⟩ := h'; exact ⟨by kernel_rfl, h⟩)))) ?_
            refine Each.cons (m := 58) rfl (HopZ.of rfl (fun z E => HopAt.move (v := .pointer (some ⟨b', 0, none⟩)) (Want.some (d := 120) (z' := false) 54 rfl (by kernel_rfl) (by kernel_rfl) rfl) rfl (Ev.free (by kernel_rfl) (by kernel_rfl)) (by kernel_rfl))) ?_
            refine Each.cons (m := 59) rfl (HopZ.of rfl (fun z E => HopAt.call (f := 27) (args := #[.pointer (some ⟨b', 0, none⟩), .int .u64 0]) (Want.some (d := 120) (z' := false) 54 rfl (by kernel_rfl) (by kernel_rfl) rfl) (fun a w hk _ => run_call_27 rfl rfl ((Ev.dep 57 (by kernel_rfl) (by kernel_rfl)) a hk) (Ev.const a hk)) (fun w h => (rneed0_c w b' u _ (Keep.mod Hr.out h.1 (by simp))).mono (fun e w' h' => by obtain ⟨rfl, rfl⟩ := h'; exact ⟨by kernel_rfl, h⟩)))) ?_
            refine Each.cons (m := 60) rfl (HopZ.of rfl (fun z E => HopAt.bin (u := .int .u64 (u.need : Nat)) (v := .int .u64 (u.need : Nat)) (r := .bool false) (Want.some (d := 120) (z' := false) 54 rfl (by kernel_rfl) (by kernel_rfl) rfl) rfl (Ev.dep 56 (by kernel_rfl) (by kernel_rfl)) (Ev.dep 58 (by kernel_rfl) (by kernel_rfl)) (fun w _ => run_neqI) (by kernel_rfl))) ?_
            refine Each.cons (m := 61) rfl (HopZ.of rfl (fun z E => HopAt.pick (z := false) (v := undef) (u := .bool false) (Want.none rfl) rfl (Ev.dep 54 (by kernel_rfl) (by kernel_rfl)) (fun h => by cases h) (fun _ => (Ev.dep 59 (by kernel_rfl) (by kernel_rfl))) (by kernel_rfl))) ?_
            refine Each.cons (m := 62) rfl (HopZ.of rfl (fun z E => HopAt.move (v := .bool false) (Want.none rfl) rfl (Ev.dep 60 (by kernel_rfl) (by kernel_rfl)) (by kernel_rfl))) ?_
            refine Each.cons (m := 63) rfl (HopZ.of rfl (fun z E => HopAt.move (v := .pointer (some ⟨b, 0, none⟩)) (Want.some (d := 127) (z' := false) 61 rfl (by kernel_rfl) (by kernel_rfl) rfl) rfl (Ev.free (by kernel_rfl) (by kernel_rfl)) (by kernel_rfl))) ?_
            refine Each.cons (m := 64) rfl (HopZ.of rfl (fun z E => HopAt.move (v := .int .u64 (m : Nat)) (Want.some (d := 127) (z' := false) 61 rfl (by kernel_rfl) (by kernel_rfl) rfl) rfl (Ev.free (by kernel_rfl) (by kernel_rfl)) (by kernel_rfl))) ?_
            refine Each.cons (m := 65) rfl (HopZ.of rfl (fun z E => HopAt.call (f := 28) (args := #[.pointer (some ⟨b, 0, none⟩), .int .u64 (m : Nat)]) (Want.some (d := 127) (z' := false) 61 rfl (by kernel_rfl) (by kernel_rfl) rfl) (fun a w hk _ => run_call_28 rfl rfl ((Ev.dep 62 (by kernel_rfl) (by kernel_rfl)) a hk) ((Ev.dep 63 (by kernel_rfl) (by kernel_rfl)) a hk)) (fun w h => (idle_c w b u (m) _ (Keep.mod Ht.out h.1 (by simp)) (by omega)).mono (fun e w' h' => by obtain ⟨rfl, rfl⟩ := h'; exact ⟨by kernel_rfl, h⟩)))) ?_
            refine Each.cons (m := 66) rfl (HopZ.of rfl (fun z E => HopAt.move (v := .pointer (some ⟨b', 0, none⟩)) (Want.some (d := 127) (z' := false) 61 rfl (by kernel_rfl) (by kernel_rfl) rfl) rfl (Ev.free (by kernel_rfl) (by kernel_rfl)) (by kernel_rfl))) ?_
            refine Each.cons (m := 67) rfl (HopZ.of rfl (fun z E => HopAt.move (v := .int .u64 (m : Nat)) (Want.some (d := 127) (z' := false) 61 rfl (by kernel_rfl) (by kernel_rfl) rfl) rfl (Ev.free (by kernel_rfl) (by kernel_rfl)) (by kernel_rfl))) ?_
            refine Each.cons (m := 68) rfl (HopZ.of rfl (fun z E => HopAt.call (f := 29) (args := #[.pointer (some ⟨b', 0, none⟩), .int .u64 (m : Nat)]) (Want.some (d := 127) (z' := false) 61 rfl (by kernel_rfl) (by kernel_rfl) rfl) (fun a w hk _ => run_call_29 rfl rfl ((Ev.dep 65 (by kernel_rfl) (by kernel_rfl)) a hk) ((Ev.dep 66 (by kernel_rfl) (by kernel_rfl)) a hk)) (fun w h => (ridle_c w b' u (m) _ (Keep.mod Hr.out h.1 (by simp)) (by omega)).mono (fun e w' h' => by obtain ⟨rfl, rfl⟩ := h'; exact ⟨by kernel_rfl, h⟩)))) ?_
            refine Each.cons (m := 69) rfl (HopZ.of rfl (fun z E => HopAt.bin (u := .bool (idleB u (m))) (v := .bool (idleB u (m))) (r := .bool false) (Want.some (d := 127) (z' := false) 61 rfl (by kernel_rfl) (by kernel_rfl) rfl) rfl (Ev.dep 64 (by kernel_rfl) (by kernel_rfl)) (Ev.dep 67 (by kernel_rfl) (by kernel_rfl)) (fun w _ => run_neqB) (by kernel_rfl))) ?_
            refine Each.cons (m := 70) rfl (HopZ.of rfl (fun z E => HopAt.pick (z := false) (v := undef) (u := .bool false) (Want.none rfl) rfl (Ev.dep 61 (by kernel_rfl) (by kernel_rfl)) (fun h => by cases h) (fun _ => (Ev.dep 68 (by kernel_rfl) (by kernel_rfl))) (by kernel_rfl))) ?_
            refine Each.cons (m := 71) rfl (HopZ.of rfl (fun z E => HopAt.move (v := .bool false) (Want.none rfl) rfl (Ev.dep 69 (by kernel_rfl) (by kernel_rfl)) (by kernel_rfl))) ?_
            refine Each.cons (m := 72) rfl (HopZ.of rfl (fun z E => HopAt.move (v := .pointer (some ⟨b, 0, none⟩)) (Want.some (d := 136) (z' := false) 70 rfl (by kernel_rfl) (by kernel_rfl) rfl) rfl (Ev.free (by kernel_rfl) (by kernel_rfl)) (by kernel_rfl))) ?_
            refine Each.cons (m := 73) rfl (HopZ.of rfl (fun z E => HopAt.move (v := .int .u64 (m : Nat)) (Want.some (d := 136) (z' := false) 70 rfl (by kernel_rfl) (by kernel_rfl) rfl) rfl (Ev.free (by kernel_rfl) (by kernel_rfl)) (by kernel_rfl))) ?_
            refine Each.cons (m := 74) rfl (HopZ.of rfl (fun z E => HopAt.bin (u := .int .u64 (m : Nat)) (v := .int .u64 64) (r := .int .u64 (m + 64 : Nat)) (Want.some (d := 136) (z' := false) 70 rfl (by kernel_rfl) (by kernel_rfl) rfl) rfl (Ev.dep 72 (by kernel_rfl) (by kernel_rfl)) Ev.const (fun w _ => (run_addN (n := 64) (by omega))) (by kernel_rfl))) ?_
            refine Each.cons (m := 75) rfl (HopZ.of rfl (fun z E => HopAt.call (f := 28) (args := #[.pointer (some ⟨b, 0, none⟩), .int .u64 (m + 64 : Nat)]) (Want.some (d := 136) (z' := false) 70 rfl (by kernel_rfl) (by kernel_rfl) rfl) (fun a w hk _ => run_call_28 rfl rfl ((Ev.dep 71 (by kernel_rfl) (by kernel_rfl)) a hk) ((Ev.dep 73 (by kernel_rfl) (by kernel_rfl)) a hk)) (fun w h => (idle_c w b u (m + 64) _ (Keep.mod Ht.out h.1 (by simp)) (by omega)).mono (fun e w' h' => by obtain ⟨rfl, rfl⟩ := h'; exact ⟨by kernel_rfl, h⟩)))) ?_
            refine Each.cons (m := 76) rfl (HopZ.of rfl (fun z E => HopAt.move (v := .pointer (some ⟨b', 0, none⟩)) (Want.some (d := 136) (z' := false) 70 rfl (by kernel_rfl) (by kernel_rfl) rfl) rfl (Ev.free (by kernel_rfl) (by kernel_rfl)) (by kernel_rfl))) ?_
            refine Each.cons (m := 77) rfl (HopZ.of rfl (fun z E => HopAt.move (v := .int .u64 (m : Nat)) (Want.some (d := 136) (z' := false) 70 rfl (by kernel_rfl) (by kernel_rfl) rfl) rfl (Ev.free (by kernel_rfl) (by kernel_rfl)) (by kernel_rfl))) ?_
            refine Each.cons (m := 78) rfl (HopZ.of rfl (fun z E => HopAt.bin (u := .int .u64 (m : Nat)) (v := .int .u64 64) (r := .int .u64 (m + 64 : Nat)) (Want.some (d := 136) (z' := false) 70 rfl (by kernel_rfl) (by kernel_rfl) rfl) rfl (Ev.dep 76 (by kernel_rfl) (by kernel_rfl)) Ev.const (fun w _ => (run_addN (n := 64) (by omega))) (by kernel_rfl))) ?_
            refine Each.cons (m := 79) rfl (HopZ.of rfl (fun z E => HopAt.call (f := 29) (args := #[.pointer (some ⟨b', 0, none⟩), .int .u64 (m + 64 : Nat)]) (Want.some (d := 136) (z' := false) 70 rfl (by kernel_rfl) (by kernel_rfl) rfl) (fun a w hk _ => run_call_29 rfl rfl ((Ev.dep 75 (by kernel_rfl) (by kernel_rfl)) a hk) ((Ev.dep 77 (by kernel_rfl) (by kernel_rfl)) a hk)) (fun w h => (ridle_c w b' u (m + 64) _ (Keep.mod Hr.out h.1 (by simp)) (by omega)).mono (fun e w' h' => by obtain ⟨rfl, rfl⟩ := h'; exact ⟨by kernel_rfl, h⟩)))) ?_
            refine Each.cons (m := 80) rfl (HopZ.of rfl (fun z E => HopAt.bin (u := .bool (idleB u (m + 64))) (v := .bool (idleB u (m + 64))) (r := .bool false) (Want.some (d := 136) (z' := false) 70 rfl (by kernel_rfl) (by kernel_rfl) rfl) rfl (Ev.dep 74 (by kernel_rfl) (by kernel_rfl)) (Ev.dep 78 (by kernel_rfl) (by kernel_rfl)) (fun w _ => run_neqB) (by kernel_rfl))) ?_
            refine Each.cons (m := 81) rfl (HopZ.of rfl (fun z E => HopAt.pick (z := false) (v := undef) (u := .bool false) (Want.none rfl) rfl (Ev.dep 70 (by kernel_rfl) (by kernel_rfl)) (fun h => by cases h) (fun _ => (Ev.dep 79 (by kernel_rfl) (by kernel_rfl))) (by kernel_rfl))) ?_
            refine Each.cons (m := 82) rfl (HopZ.of rfl (fun z E => HopAt.move (v := .bool false) (Want.none rfl) rfl (Ev.dep 80 (by kernel_rfl) (by kernel_rfl)) (by kernel_rfl))) ?_
            refine Each.cons (m := 83) rfl (HopZ.of rfl (fun z E => HopAt.move (v := .pointer (some ⟨b, 0, none⟩)) (Want.some (d := 147) (z' := false) 81 rfl (by kernel_rfl) (by kernel_rfl) rfl) rfl (Ev.free (by kernel_rfl) (by kernel_rfl)) (by kernel_rfl))) ?_
            refine Each.cons (m := 84) rfl (HopZ.of rfl (fun z E => HopAt.move (v := .int .u64 (m : Nat)) (Want.some (d := 147) (z' := false) 81 rfl (by kernel_rfl) (by kernel_rfl) rfl) rfl (Ev.free (by kernel_rfl) (by kernel_rfl)) (by kernel_rfl))) ?_
            refine Each.cons (m := 85) rfl (HopZ.of rfl (fun z E => HopAt.move (v := .slice (some ⟨ab, off, none⟩) xs.length cap) (Want.some (d := 147) (z' := false) 81 rfl (by kernel_rfl) (by kernel_rfl) rfl) rfl (Ev.free (by kernel_rfl) (by kernel_rfl)) (by kernel_rfl))) ?_
            refine Each.cons (m := 86) rfl (HopZ.of rfl (fun z E => HopAt.move (v := .int .i64 (i : Nat)) (Want.some (d := 147) (z' := false) 81 rfl (by kernel_rfl) (by kernel_rfl) rfl) rfl (Ev.free (by kernel_rfl) (by kernel_rfl)) (by kernel_rfl))) ?_
            refine Each.cons (m := 87) rfl (HopZ.of rfl (fun z E => HopAt.index (u := .slice (some ⟨ab, off, none⟩) xs.length cap) (v := .int .i64 (i : Nat)) (r := .pointer (some ⟨ab, off + i * 12, none⟩)) (Want.some (d := 147) (z' := false) 81 rfl (by kernel_rfl) (by kernel_rfl) rfl) rfl (Ev.dep 84 (by kernel_rfl) (by kernel_rfl)) (Ev.dep 85 (by kernel_rfl) (by kernel_rfl)) (fun w => run_ix (by omega)) (by kernel_rfl))) ?_
            refine Each.cons (m := 88) rfl (HopZ.of rfl (fun z E => HopAt.field (v := .pointer (some ⟨ab, off + i * 12, none⟩)) (r := .pointer (some ⟨ab, off + i * 12 + 6, none⟩)) (Want.some (d := 147) (z' := false) 81 rfl (by kernel_rfl) (by kernel_rfl) rfl) rfl (Ev.dep 86 (by kernel_rfl) (by kernel_rfl)) (fun w => rfl) (by kernel_rfl))) ?_
            refine Each.cons (m := 89) rfl (HopZ.of rfl (fun z E => HopAt.load (v := .pointer (some ⟨ab, off + i * 12 + 6, none⟩)) (r := .int .u64 (x.n : Nat)) (Want.some (d := 147) (z' := false) 81 rfl (by kernel_rfl) (by kernel_rfl) rfl) rfl (Ev.dep 87 (by kernel_rfl) (by kernel_rfl)) (fun w h => HL_cx w h.1) (by kernel_rfl))) ?_
            refine Each.cons (m := 90) rfl (HopZ.of rfl (fun z E => HopAt.bin (u := .int .u64 (x.n : Nat)) (v := .int .u64 70) (r := .int .u64 (x.n % 70 : Nat)) (Want.some (d := 147) (z' := false) 81 rfl (by kernel_rfl) (by kernel_rfl) rfl) rfl (Ev.dep 88 (by kernel_rfl) (by kernel_rfl)) Ev.const (fun w _ => run_rem70) (by kernel_rfl))) ?_
            refine Each.cons (m := 91) rfl (HopZ.of rfl (fun z E => HopAt.bin (u := .int .u64 (m : Nat)) (v := .int .u64 (x.n % 70 : Nat)) (r := .int .u64 (m + x.n % 70 : Nat)) (Want.some (d := 147) (z' := false) 81 rfl (by kernel_rfl) (by kernel_rfl) rfl) rfl (Ev.dep 83 (by kernel_rfl) (by kernel_rfl)) (Ev.dep 89 (by kernel_rfl) (by kernel_rfl)) (fun w _ => (run_addN (by omega))) (by kernel_rfl))) ?_
            refine Each.cons (m := 92) rfl (HopZ.of rfl (fun z E => HopAt.call (f := 28) (args := #[.pointer (some ⟨b, 0, none⟩), .int .u64 (m + x.n % 70 : Nat)]) (Want.some (d := 147) (z' := false) 81 rfl (by kernel_rfl) (by kernel_rfl) rfl) (fun a w hk _ => run_call_28 rfl rfl ((Ev.dep 82 (by kernel_rfl) (by kernel_rfl)) a hk) ((Ev.dep 90 (by kernel_rfl) (by kernel_rfl)) a hk)) (fun w h => (idle_c w b u (m + x.n % 70) _ (Keep.mod Ht.out h.1 (by simp)) (by omega)).mono (fun e w' h' => by obtain ⟨rfl, rfl⟩ := h'; exact ⟨by kernel_rfl, h⟩)))) ?_
            refine Each.cons (m := 93) rfl (HopZ.of rfl (fun z E => HopAt.move (v := .pointer (some ⟨b', 0, none⟩)) (Want.some (d := 147) (z' := false) 81 rfl (by kernel_rfl) (by kernel_rfl) rfl) rfl (Ev.free (by kernel_rfl) (by kernel_rfl)) (by kernel_rfl))) ?_
            refine Each.cons (m := 94) rfl (HopZ.of rfl (fun z E => HopAt.move (v := .int .u64 (m : Nat)) (Want.some (d := 147) (z' := false) 81 rfl (by kernel_rfl) (by kernel_rfl) rfl) rfl (Ev.free (by kernel_rfl) (by kernel_rfl)) (by kernel_rfl))) ?_
            refine Each.cons (m := 95) rfl (HopZ.of rfl (fun z E => HopAt.move (v := .slice (some ⟨ab, off, none⟩) xs.length cap) (Want.some (d := 147) (z' := false) 81 rfl (by kernel_rfl) (by kernel_rfl) rfl) rfl (Ev.free (by kernel_rfl) (by kernel_rfl)) (by kernel_rfl))) ?_
            refine Each.cons (m := 96) rfl (HopZ.of rfl (fun z E => HopAt.move (v := .int .i64 (i : Nat)) (Want.some (d := 147) (z' := false) 81 rfl (by kernel_rfl) (by kernel_rfl) rfl) rfl (Ev.free (by kernel_rfl) (by kernel_rfl)) (by kernel_rfl))) ?_
            refine Each.cons (m := 97) rfl (HopZ.of rfl (fun z E => HopAt.index (u := .slice (some ⟨ab, off, none⟩) xs.length cap) (v := .int .i64 (i : Nat)) (r := .pointer (some ⟨ab, off + i * 12, none⟩)) (Want.some (d := 147) (z' := false) 81 rfl (by kernel_rfl) (by kernel_rfl) rfl) rfl (Ev.dep 94 (by kernel_rfl) (by kernel_rfl)) (Ev.dep 95 (by kernel_rfl) (by kernel_rfl)) (fun w => run_ix (by omega)) (by kernel_rfl))) ?_
            refine Each.cons (m := 98) rfl (HopZ.of rfl (fun z E => HopAt.field (v := .pointer (some ⟨ab, off + i * 12, none⟩)) (r := .pointer (some ⟨ab, off + i * 12 + 6, none⟩)) (Want.some (d := 147) (z' := false) 81 rfl (by kernel_rfl) (by kernel_rfl) rfl) rfl (Ev.dep 96 (by kernel_rfl) (by kernel_rfl)) (fun w => rfl) (by kernel_rfl))) ?_
            refine Each.cons (m := 99) rfl (HopZ.of rfl (fun z E => HopAt.load (v := .pointer (some ⟨ab, off + i * 12 + 6, none⟩)) (r := .int .u64 (x.n : Nat)) (Want.some (d := 147) (z' := false) 81 rfl (by kernel_rfl) (by kernel_rfl) rfl) rfl (Ev.dep 97 (by kernel_rfl) (by kernel_rfl)) (fun w h => HL_cx w h.1) (by kernel_rfl))) ?_
            refine Each.cons (m := 100) rfl (HopZ.of rfl (fun z E => HopAt.bin (u := .int .u64 (x.n : Nat)) (v := .int .u64 70) (r := .int .u64 (x.n % 70 : Nat)) (Want.some (d := 147) (z' := false) 81 rfl (by kernel_rfl) (by kernel_rfl) rfl) rfl (Ev.dep 98 (by kernel_rfl) (by kernel_rfl)) Ev.const (fun w _ => run_rem70) (by kernel_rfl))) ?_
            refine Each.cons (m := 101) rfl (HopZ.of rfl (fun z E => HopAt.bin (u := .int .u64 (m : Nat)) (v := .int .u64 (x.n % 70 : Nat)) (r := .int .u64 (m + x.n % 70 : Nat)) (Want.some (d := 147) (z' := false) 81 rfl (by kernel_rfl) (by kernel_rfl) rfl) rfl (Ev.dep 93 (by kernel_rfl) (by kernel_rfl)) (Ev.dep 99 (by kernel_rfl) (by kernel_rfl)) (fun w _ => (run_addN (by omega))) (by kernel_rfl))) ?_
            refine Each.cons (m := 102) rfl (HopZ.of rfl (fun z E => HopAt.call (f := 29) (args := #[.pointer (some ⟨b', 0, none⟩), .int .u64 (m + x.n % 70 : Nat)]) (Want.some (d := 147) (z' := false) 81 rfl (by kernel_rfl) (by kernel_rfl) rfl) (fun a w hk _ => run_call_29 rfl rfl ((Ev.dep 92 (by kernel_rfl) (by kernel_rfl)) a hk) ((Ev.dep 100 (by kernel_rfl) (by kernel_rfl)) a hk)) (fun w h => (ridle_c w b' u (m + x.n % 70) _ (Keep.mod Hr.out h.1 (by simp)) (by omega)).mono (fun e w' h' => by obtain ⟨rfl, rfl⟩ := h'; exact ⟨by kernel_rfl, h⟩)))) ?_
            refine Each.cons (m := 103) rfl (HopZ.of rfl (fun z E => HopAt.bin (u := .bool (idleB u (m + x.n % 70))) (v := .bool (idleB u (m + x.n % 70))) (r := .bool false) (Want.some (d := 147) (z' := false) 81 rfl (by kernel_rfl) (by kernel_rfl) rfl) rfl (Ev.dep 91 (by kernel_rfl) (by kernel_rfl)) (Ev.dep 101 (by kernel_rfl) (by kernel_rfl)) (fun w _ => run_neqB) (by kernel_rfl))) ?_
            refine Each.cons (m := 104) rfl (HopZ.of rfl (fun z E => HopAt.pick (z := false) (v := undef) (u := .bool false) (Want.none rfl) rfl (Ev.dep 81 (by kernel_rfl) (by kernel_rfl)) (fun h => by cases h) (fun _ => (Ev.dep 102 (by kernel_rfl) (by kernel_rfl))) (by kernel_rfl))) ?_
            trivial
          case hQ =>
            intro z W6 hM6 hO6
            have HT6 := hid (HT5.out.mod hM6)
            have Ht6 := hid (Keep.mod Ht.out hM6 (by simp))
            clear HL_g0 HL_g1 HL_g3 HL_gc HL_g10 HL_cx HL_qc hT5 HT5 Hr HLx hbl' hql hgc hn1 hn2 Ht hM6 hO6
            simp only [List.toList_toArray, List.take_succ_cons, List.take_zero, List.drop_succ_cons, List.drop_zero, List.cons_append, List.nil_append, List.size_toArray, List.length_cons, List.length_nil]
            go_wp2_with fail
            refine (ops_c W6 b u Lt Ht6.out (by omega)).mono ?_
            intro e W7 hs
            obtain ⟨v, rfl, hT7⟩ := HT6.out.clone hs
            obtain ⟨Lo, ho⟩ := hT7.res
            obtain ⟨oa, ocap, rfl, hoc, hoc2, hog⟩ := Own.val ho
            have HT7 := hid hT7
            have Hog : Hid (0 < u.ops.length → ∃ g, oa = some ⟨g, 0, none⟩) := fun h => ⟨_, (hog h).choose_spec.1⟩
            clear hs hT7 HT6 Ht6 ho hog
            obtain ⟨og, rfl⟩ : ∃ og, og = gk := ⟨_, rfl⟩
            go_wp2
            go_loopg [12] u.ops.length (fun g p wr => ∃ (k : Nat) (ys : List Value), p = .int .i64 (k : Int) ∧ k + g = u.ops.length ∧ Hid (Top w (star (rowR 32 4 (.slice oa u.ops.length ocap) u.ops.length ys) (star (boxR q (clC cl0) 24) (star (txR b u) (star (rxR b' u) emp)))) wr))
            · exact ⟨0, _, rfl, by omega, HT7.out⟩
            · obtain ⟨k, ys, rfl, hk, hTk⟩ := hrel
              by_cases hlk : k < u.ops.length
              · obtain ⟨g, rfl⟩ := Hog.out (by omega)
                obtain ⟨Lq, hq⟩ := hTk.out.res
                obtain ⟨_, ⟨cur, hbk⟩, _⟩ := Own.blk hq
                have hfr := hbk.free (k * 4)
                have hk1 : (k : Int) < (u.ops.length : Int) := by omega
                have hk0 : (0 : Int) ≤ (k : Int) := by omega
                have hgl := hbk.lt
                have hcl : ∃ v0, wr.cell? ⟨g, k * 4, none⟩ = some v0 := by
                  obtain ⟨_, _, e0, _, _, hc⟩ := Own.val hq
                  obtain ⟨g', e1, _, hc⟩ := hc (by omega)
                  cases e0
                  cases e1
                  have hl := hq.1
                  exact ⟨_, (hc (k * 4) (by omega)).trans (List.getElem?_eq_getElem (by omega))⟩
                obtain ⟨v0, hv0⟩ := hcl
                clear hq hbk
                go_wp2
                go_roundg (gk - 1)
                case measure => omega
                case rel => exact ⟨k + 1, _, by go_num, by omega, hTk.out.rowSet (k * 4) (by omega) _⟩
              · have hk1 : ¬ ((k : Int) < (u.ops.length : Int)) := by omega
                go_wp2
                go_roundg (og - 1)
                case measure => omega
                case rel => exact ⟨i + 1, m, u, rfl, by go_num, by omega, hm1, HK2.out, by omega, by omega, hTk.out.drop.drop⟩
        · as_aux_lemma =>
          refine (pending_c w3 b u Lt ht).mono ?_
          simp only [hu, if_true]
          rintro e w4 ⟨rfl, hm4⟩
          have hT5 := (HT3.out.mod hm4).box (clC u.call) 24
          have HT5 := hid hT5
          clear ht HT3 hm4
          obtain ⟨Lt, ht⟩ := HT5.out.drop.res
          obtain ⟨Lr, hr⟩ := HT5.out.drop.drop.res
          obtain ⟨ra, rcap, ⟨g0, g1, g3⟩, ⟨g4, g5, g6, g7, g8⟩, g10, hlx, hbl'⟩ := hr.cells
          have HLx := hid hlx
          have Ht := hid ht
          have Hr := hid hr
          have c6w : (w4.alloc (.cells (clC u.call) 24)).cell? ⟨ab, off + i * 12 + 6, none⟩ = some (.int .u64 x.n) := by
            obtain ⟨ab', off', e0, hcw⟩ := (HX.out.mod HT5.out.m).at Hx.out
            simp only [Option.some.injEq, Addr.mk.injEq, and_true] at e0
            obtain ⟨rfl, rfl⟩ := e0
            exact hcw 6 _ rfl
          have hBc := HT5.out.get
          have e0 := hBc.cell 0
          have e1 := hBc.cell 1
          have e2 := hBc.cell 2
          have e3 := hBc.cell 3
          have e4 := hBc.cell 4
          have hql := hBc.lt
          have hgc := call_g
          have hn1 := call_neq u.call
          have hn2 := call_neq (u.call)
          clear hlx ht hr hBc
          rw [hu] at g3
          have Hu := hid hu
          clear hu
          simp only [List.getElem?_toArray, List.getElem?_cons_zero, List.getElem?_cons_succ] at e0 e1 e2 e3 e4
          go_upto_region 12 with (fail)
          dsimp only [List.append]
          generalize w4.alloc (.cells (clC u.call) 24) = W5 at *
          generalize w4.heap.size = q at *
          have HL_g0 : ∀ w, Mod [] W5 w → (Instr.loadAt 22 (.pointer (some ⟨b', 0, none⟩))).run Try.prog w = .ok (.int .u64 (u.ts : Nat)) w := fun w h => run_load_u (h.cellSome g0 (by simp))
          have HL_g1 : ∀ w, Mod [] W5 w → (Instr.loadAt 3 (.pointer (some ⟨b', 1, none⟩))).run Try.prog w = .ok (.int .i64 (u.state : Nat)) w := fun w h => run_load_i (h.cellSome g1 (by simp))
          have HL_g3 : ∀ w, Mod [] W5 w → (Instr.loadAt 4 (.pointer (some ⟨b', 3, none⟩))).run Try.prog w = .ok (.bool true) w := fun w h => run_load_b (h.cellSome g3 (by simp))
          have HL_gc : ∀ w, Mod [] W5 w → (Instr.loadAt 24 (.pointer (some ⟨b', 4, none⟩))).run Try.prog w = .ok (clV u.call) w := fun w h => run_load_call (h.cellSome g4 (by simp)) (h.cellSome g5 (by simp)) (h.cellSome g6 (by simp)) (h.cellSome g7 (by simp)) (h.cellSome g8 (by simp))
          have HL_g10 : ∀ w, Mod [] W5 w → (Instr.loadAt 39 (.pointer (some ⟨b', 10, none⟩))).run Try.prog w = .ok (.slice ra u.ops.length rcap) w := fun w h => run_load_s (h.cellSome g10 (by simp))
          have HL_cx : ∀ w, Mod [] W5 w → (Instr.loadAt 22 (.pointer (some ⟨ab, off + i * 12 + 6, none⟩))).run Try.prog w = .ok (.int .u64 (x.n : Nat)) w := fun w h => run_load_u (h.cellSome c6w (by simp))
          have HL_qc : ∀ w, Mod [] W5 w → (Instr.loadAt 24 (.pointer (some ⟨q, 0, none⟩))).run Try.prog w = .ok (clV (u.call)) w := fun w h => run_load_call (h.cellSome e0 (by simp)) (h.cellSome e1 (by simp)) (h.cellSome e2 (by simp)) (h.cellSome e3 (by simp)) (h.cellSome e4 (by simp))
          clear e0 e1 e2 e3 e4 g0 g1 g3 g4 g5 g6 g7 g8 g10 c6w
          refine wp_hopz_block (s := 46) 66 (fun z => [.pointer (some ⟨b, 0, none⟩), .int .u64 (u.ts : Nat), .pointer (some ⟨b', 0, none⟩), .pointer (some ⟨b', 0, none⟩), .pointer (some ⟨b', 0, none⟩), .int .u64 (u.ts : Nat), .bool false, .bool false, .pointer (some ⟨b, 0, none⟩), .int .i64 (u.state : Nat), .pointer (some ⟨b', 0, none⟩), .pointer (some ⟨b', 0, none⟩), .pointer (some ⟨b', 1, none⟩), .int .i64 (u.state : Nat), .bool false, .bool false, .bool false, .bool true, .pointer (some ⟨b', 0, none⟩), .pointer (some ⟨b', 0, none⟩), .pointer (some ⟨b', 3, none⟩), .bool true, .bool false, .bool false, .bool false, .bool true, .bool true, clV (u.call), .pointer (some ⟨b', 0, none⟩), .pointer (some ⟨b', 0, none⟩), .pointer (some ⟨b', 4, none⟩), clV u.call, .bool false, .bool false, .bool false, .bool false, .bool true, .bool false, .bool false, undef, undef, undef, .bool false, .bool false, .bool false, .pointer (some ⟨b, 0, none⟩), z, .pointer (some ⟨b', 0, none⟩), .pointer (some ⟨b', 0, none⟩), .pointer (some ⟨b', 10, none⟩), .slice ra u.ops.length rcap, .bool true, .bool false, .bool false, .bool false, .pointer (some ⟨b, 0, none⟩), .int .u64 (u.need : Nat), .pointer (some ⟨b', 0, none⟩), .int .u64 (u.need : Nat), .bool false, .bool false, .bool false, .pointer (some ⟨b, 0, none⟩), .int .u64 (m : Nat), .bool (idleB u (m)), .pointer (some ⟨b', 0, none⟩), .int .u64 (m : Nat), .bool (idleB u (m)), .bool false, .bool false, .bool false, .pointer (some ⟨b, 0, none⟩), .int .u64 (m : Nat), .int .u64 (m + 64 : Nat), .bool (idleB u (m + 64)), .pointer (some ⟨b', 0, none⟩), .int .u64 (m : Nat), .int .u64 (m + 64 : Nat), .bool (idleB u (m + 64)), .bool false, .bool false, .bool false, .pointer (some ⟨b, 0, none⟩), .int .u64 (m : Nat), .slice (some ⟨ab, off, none⟩) xs.length cap, .int .i64 (i : Nat), .pointer (some ⟨ab, off + i * 12, none⟩), .pointer (some ⟨ab, off + i * 12 + 6, none⟩), .int .u64 (x.n : Nat), .int .u64 (x.n % 70 : Nat), .int .u64 (m + x.n % 70 : Nat), .bool (idleB u (m + x.n % 70)), .pointer (some ⟨b', 0, none⟩), .int .u64 (m : Nat), .slice (some ⟨ab, off, none⟩) xs.length cap, .int .i64 (i : Nat), .pointer (some ⟨ab, off + i * 12, none⟩), .pointer (some ⟨ab, off + i * 12 + 6, none⟩), .int .u64 (x.n : Nat), .int .u64 (x.n % 70 : Nat), .int .u64 (m + x.n % 70 : Nat), .bool (idleB u (m + x.n % 70)), .bool false, .bool false]) (fun X => Mod [] W5 X) (fun z X => ∃ L, Own X 32 4 z u.ops.length (flat rcC u.ops) L) (fun z ix => if (ix == 46) = true then z else nthV [.pointer (some ⟨b, 0, none⟩), .int .u64 (u.ts : Nat), .pointer (some ⟨b', 0, none⟩), .pointer (some ⟨b', 0, none⟩), .pointer (some ⟨b', 0, none⟩), .int .u64 (u.ts : Nat), .bool false, .bool false, .pointer (some ⟨b, 0, none⟩), .int .i64 (u.state : Nat), .pointer (some ⟨b', 0, none⟩), .pointer (some ⟨b', 0, none⟩), .pointer (some ⟨b', 1, none⟩), .int .i64 (u.state : Nat), .bool false, .bool false, .bool false, .bool true, .pointer (some ⟨b', 0, none⟩), .pointer (some ⟨b', 0, none⟩), .pointer (some ⟨b', 3, none⟩), .bool true, .bool false, .bool false, .bool false, .bool true, .bool true, clV (u.call), .pointer (some ⟨b', 0, none⟩), .pointer (some ⟨b', 0, none⟩), .pointer (some ⟨b', 4, none⟩), clV u.call, .bool false, .bool false, .bool false, .bool false, .bool true, .bool false, .bool false, undef, undef, undef, .bool false, .bool false, .bool false, .pointer (some ⟨b, 0, none⟩), undef, .pointer (some ⟨b', 0, none⟩), .pointer (some ⟨b', 0, none⟩), .pointer (some ⟨b', 10, none⟩), .slice ra u.ops.length rcap, .bool true, .bool false, .bool false, .bool false, .pointer (some ⟨b, 0, none⟩), .int .u64 (u.need : Nat), .pointer (some ⟨b', 0, none⟩), .int .u64 (u.need : Nat), .bool false, .bool false, .bool false, .pointer (some ⟨b, 0, none⟩), .int .u64 (m : Nat), .bool (idleB u (m)), .pointer (some ⟨b', 0, none⟩), .int .u64 (m : Nat), .bool (idleB u (m)), .bool false, .bool false, .bool false, .pointer (some ⟨b, 0, none⟩), .int .u64 (m : Nat), .int .u64 (m + 64 : Nat), .bool (idleB u (m + 64)), .pointer (some ⟨b', 0, none⟩), .int .u64 (m : Nat), .int .u64 (m + 64 : Nat), .bool (idleB u (m + 64)), .bool false, .bool false, .bool false, .pointer (some ⟨b, 0, none⟩), .int .u64 (m : Nat), .slice (some ⟨ab, off, none⟩) xs.length cap, .int .i64 (i : Nat), .pointer (some ⟨ab, off + i * 12, none⟩), .pointer (some ⟨ab, off + i * 12 + 6, none⟩), .int .u64 (x.n : Nat), .int .u64 (x.n % 70 : Nat), .int .u64 (m + x.n % 70 : Nat), .bool (idleB u (m + x.n % 70)), .pointer (some ⟨b', 0, none⟩), .int .u64 (m : Nat), .slice (some ⟨ab, off, none⟩) xs.length cap, .int .i64 (i : Nat), .pointer (some ⟨ab, off + i * 12, none⟩), .pointer (some ⟨ab, off + i * 12 + 6, none⟩), .int .u64 (x.n : Nat), .int .u64 (x.n % 70 : Nat), .int .u64 (m + x.n % 70 : Nat), .bool (idleB u (m + x.n % 70)), .bool false, .bool false] ix) (by kernel_rfl) (by kernel_rfl) (by kernel_rfl) (Nat.le_of_ble_eq_true (by kernel_rfl)) (by kernel_rfl) (Nat.le_of_ble_eq_true (by kernel_rfl)) (fun z => by kernel_rfl) ?hV ?hG (Mod.refl [] W5).drew ?hop ?hQ
          case hV =>
            intro z z' j hj
            show (if (j == 46) = true then z else _) = (if (j == 46) = true then z' else _)
            rw [if_neg (by simpa using hj), if_neg (by simpa using hj)]
          case hG =>
            rintro z w w' hm ⟨L, hL⟩
            exact ⟨L, hL.mod hm (by simp)⟩
          case hop =>
            refine Each.cons (m := 1) rfl (HopZ.of rfl (fun z E => HopAt.move (v := .pointer (some ⟨b, 0, none⟩)) (Want.none rfl) rfl (Ev.free (by kernel_rfl) (by kernel_rfl)) (by kernel_rfl))) ?_
            refine Each.cons (m := 2) rfl (HopZ.of rfl (fun z E => HopAt.call (f := 24) (args := #[.pointer (some ⟨b, 0, none⟩)]) (Want.none rfl) (fun a w hk _ => run_call_24 rfl rfl ((Ev.dep 0 (by kernel_rfl) (by kernel_rfl)) a hk)) (fun w h => (ts_c w b u _ (Keep.mod Ht.out h.1 (by simp))).mono (fun e w' h' => by obtain ⟨rfl, rfl⟩ := h'; exact ⟨by kernel_rfl, h⟩)))) ?_
            refine Each.cons (m := 3) rfl (HopZ.of rfl (fun z E => HopAt.move (v := .pointer (some ⟨b', 0, none⟩)) (Want.none rfl) rfl (Ev.free (by kernel_rfl) (by kernel_rfl)) (by kernel_rfl))) ?_
            refine Each.cons (m := 4) rfl (HopZ.of rfl (fun z E => HopAt.nil (p := ⟨b', 0, none⟩) (Want.none rfl) rfl (Ev.dep 2 (by kernel_rfl) (by kernel_rfl)) (by kernel_rfl))) ?_
            refine Each.cons (m := 5) rfl (HopZ.of rfl (fun z E => HopAt.field (v := .pointer (some ⟨b', 0, none⟩)) (r := .pointer (some ⟨b', 0, none⟩)) (Want.none rfl) rfl (Ev.dep 3 (by kernel_rfl) (by kernel_rfl)) (fun w => rfl) (by kernel_rfl))) ?_
            refine Each.cons (m := 6) rfl (HopZ.of rfl (fun z E => HopAt.load (v := .pointer (some ⟨b', 0, none⟩)) (r := .int .u64 (u.ts : Nat)) (Want.none rfl) rfl (Ev.dep 4 (by kernel_rfl) (by kernel_rfl)) (fun w h => HL_g0 w h.1) (by kernel_rfl))) ?_
            refine Each.cons (m := 7) rfl (HopZ.of rfl (fun z E => HopAt.bin (u := .int .u64 (u.ts : Nat)) (v := .int .u64 (u.ts : Nat)) (r := .bool false) (Want.none rfl) rfl (Ev.dep 1 (by kernel_rfl) (by kernel_rfl)) (Ev.dep 5 (by kernel_rfl) (by kernel_rfl)) (fun w _ => run_neqI) (by kernel_rfl))) ?_
            refine Each.cons (m := 8) rfl (HopZ.of rfl (fun z E => HopAt.move (v := .bool false) (Want.none rfl) rfl (Ev.dep 6 (by kernel_rfl) (by kernel_rfl)) (by kernel_rfl))) ?_
            refine Each.cons (m := 9) rfl (HopZ.of rfl (fun z E => HopAt.move (v := .pointer (some ⟨b, 0, none⟩)) (Want.some (d := 73) (z' := false) 7 rfl (by kernel_rfl) (by kernel_rfl) rfl) rfl (Ev.free (by kernel_rfl) (by kernel_rfl)) (by kernel_rfl))) ?_
            refine Each.cons (m := 10) rfl (HopZ.of rfl (fun z E => HopAt.call (f := 14) (args := #[.pointer (some ⟨b, 0, none⟩)]) (Want.some (d := 73) (z' := false) 7 rfl (by kernel_rfl) (by kernel_rfl) rfl) (fun a w hk _ => run_call_14 rfl rfl ((Ev.dep 8 (by kernel_rfl) (by kernel_rfl)) a hk)) (fun w h => (state_c w b u _ (Keep.mod Ht.out h.1 (by simp))).mono (fun e w' h' => by obtain ⟨rfl, rfl⟩ := h'; exact ⟨by kernel_rfl, h⟩)))) ?_
            refine Each.cons (m := 11) rfl (HopZ.of rfl (fun z E => HopAt.move (v := .pointer (some ⟨b', 0, none⟩)) (Want.some (d := 73) (z' := false) 7 rfl (by kernel_rfl) (by kernel_rfl) rfl) rfl (Ev.free (by kernel_rfl) (by kernel_rfl)) (by kernel_rfl))) ?_
            refine Each.cons (m := 12) rfl (HopZ.of rfl (fun z E => HopAt.nil (p := ⟨b', 0, none⟩) (Want.some (d := 73) (z' := false) 7 rfl (by kernel_rfl) (by kernel_rfl) rfl) rfl (Ev.dep 10 (by kernel_rfl) (by kernel_rfl)) (by kernel_rfl))) ?_
            refine Each.cons (m := 13) rfl (HopZ.of rfl (fun z E => HopAt.field (v := .pointer (some ⟨b', 0, none⟩)) (r := .pointer (some ⟨b', 1, none⟩)) (Want.some (d := 73) (z' := false) 7 rfl (by kernel_rfl) (by kernel_rfl) rfl) rfl (Ev.dep 11 (by kernel_rfl) (by kernel_rfl)) (fun w => rfl) (by kernel_rfl))) ?_
            refine Each.cons (m := 14) rfl (HopZ.of rfl (fun z E => HopAt.load (v := .pointer (some ⟨b', 1, none⟩)) (r := .int .i64 (u.state : Nat)) (Want.some (d := 73) (z' := false) 7 rfl (by kernel_rfl) (by kernel_rfl) rfl) rfl (Ev.dep 12 (by kernel_rfl) (by kernel_rfl)) (fun w h => HL_g1 w h.1) (by kernel_rfl))) ?_
            refine Each.cons (m := 15) rfl (HopZ.of rfl (fun z E => HopAt.bin (u := .int .i64 (u.state : Nat)) (v := .int .i64 (u.state : Nat)) (r := .bool false) (Want.some (d := 73) (z' := false) 7 rfl (by kernel_rfl) (by kernel_rfl) rfl) rfl (Ev.dep 9 (by kernel_rfl) (by kernel_rfl)) (Ev.dep 13 (by kernel_rfl) (by kernel_rfl)) (fun w _ => run_neqI) (by kernel_rfl))) ?_
            refine Each.cons (m := 16) rfl (HopZ.of rfl (fun z E => HopAt.pick (z := false) (v := undef) (u := .bool false) (Want.none rfl) rfl (Ev.dep 7 (by kernel_rfl) (by kernel_rfl)) (fun h => by cases h) (fun _ => (Ev.dep 14 (by kernel_rfl) (by kernel_rfl))) (by kernel_rfl))) ?_
            refine Each.cons (m := 17) rfl (HopZ.of rfl (fun z E => HopAt.move (v := .bool false) (Want.none rfl) rfl (Ev.dep 15 (by kernel_rfl) (by kernel_rfl)) (by kernel_rfl))) ?_
            refine Each.cons (m := 18) rfl (HopZ.of rfl (fun z E => HopAt.move (v := .bool true) (Want.some (d := 82) (z' := false) 16 rfl (by kernel_rfl) (by kernel_rfl) rfl) rfl (Ev.free (by kernel_rfl) (by kernel_rfl)) (by kernel_rfl))) ?_
            refine Each.cons (m := 19) rfl (HopZ.of rfl (fun z E => HopAt.move (v := .pointer (some ⟨b', 0, none⟩)) (Want.some (d := 82) (z' := false) 16 rfl (by kernel_rfl) (by kernel_rfl) rfl) rfl (Ev.free (by kernel_rfl) (by kernel_rfl)) (by kernel_rfl))) ?_
            refine Each.cons (m := 20) rfl (HopZ.of rfl (fun z E => HopAt.nil (p := ⟨b', 0, none⟩) (Want.some (d := 82) (z' := false) 16 rfl (by kernel_rfl) (by kernel_rfl) rfl) rfl (Ev.dep 18 (by kernel_rfl) (by kernel_rfl)) (by kernel_rfl))) ?_
            refine Each.cons (m := 21) rfl (HopZ.of rfl (fun z E => HopAt.field (v := .pointer (some ⟨b', 0, none⟩)) (r := .pointer (some ⟨b', 3, none⟩)) (Want.some (d := 82) (z' := false) 16 rfl (by kernel_rfl) (by kernel_rfl) rfl) rfl (Ev.dep 19 (by kernel_rfl) (by kernel_rfl)) (fun w => rfl) (by kernel_rfl))) ?_
            refine Each.cons (m := 22) rfl (HopZ.of rfl (fun z E => HopAt.load (v := .pointer (some ⟨b', 3, none⟩)) (r := .bool true) (Want.some (d := 82) (z' := false) 16 rfl (by kernel_rfl) (by kernel_rfl) rfl) rfl (Ev.dep 20 (by kernel_rfl) (by kernel_rfl)) (fun w h => HL_g3 w h.1) (by kernel_rfl))) ?_
            refine Each.cons (m := 23) rfl (HopZ.of rfl (fun z E => HopAt.bin (u := .bool true) (v := .bool true) (r := .bool false) (Want.some (d := 82) (z' := false) 16 rfl (by kernel_rfl) (by kernel_rfl) rfl) rfl (Ev.dep 17 (by kernel_rfl) (by kernel_rfl)) (Ev.dep 21 (by kernel_rfl) (by kernel_rfl)) (fun w _ => run_neqB) (by kernel_rfl))) ?_
            refine Each.cons (m := 24) rfl (HopZ.of rfl (fun z E => HopAt.pick (z := false) (v := undef) (u := .bool false) (Want.none rfl) rfl (Ev.dep 16 (by kernel_rfl) (by kernel_rfl)) (fun h => by cases h) (fun _ => (Ev.dep 22 (by kernel_rfl) (by kernel_rfl))) (by kernel_rfl))) ?_
            refine Each.cons (m := 25) rfl (HopZ.of rfl (fun z E => HopAt.move (v := .bool false) (Want.none rfl) rfl (Ev.dep 23 (by kernel_rfl) (by kernel_rfl)) (by kernel_rfl))) ?_
            refine Each.cons (m := 26) rfl (HopZ.of rfl (fun z E => HopAt.move (v := .bool true) (Want.some (d := 90) (z' := false) 24 rfl (by kernel_rfl) (by kernel_rfl) rfl) rfl (Ev.free (by kernel_rfl) (by kernel_rfl)) (by kernel_rfl))) ?_
            refine Each.cons (m := 27) rfl (HopZ.of rfl (fun z E => HopAt.move (v := .bool true) (Want.some (d := 90) (z' := false) 24 rfl (by kernel_rfl) (by kernel_rfl) rfl) rfl (Ev.dep 25 (by kernel_rfl) (by kernel_rfl)) (by kernel_rfl))) ?_
            refine Each.cons (m := 28) rfl (HopZ.of rfl (fun z E => HopAt.load (v := .pointer (some ⟨q, 0, none⟩)) (r := clV (u.call)) (Want.some (d := 92) (z' := true) 26 rfl (by kernel_rfl) (by kernel_rfl) rfl) rfl (Ev.free (by kernel_rfl) (by kernel_rfl)) (fun w h => HL_qc w h.1) (by kernel_rfl))) ?_
            refine Each.cons (m := 29) rfl (HopZ.of rfl (fun z E => HopAt.move (v := .pointer (some ⟨b', 0, none⟩)) (Want.some (d := 92) (z' := true) 26 rfl (by kernel_rfl) (by kernel_rfl) rfl) rfl (Ev.free (by kernel_rfl) (by kernel_rfl)) (by kernel_rfl))) ?_
            refine Each.cons (m := 30) rfl (HopZ.of rfl (fun z E => HopAt.nil (p := ⟨b', 0, none⟩) (Want.some (d := 92) (z' := true) 26 rfl (by kernel_rfl) (by kernel_rfl) rfl) rfl (Ev.dep 28 (by kernel_rfl) (by kernel_rfl)) (by kernel_rfl))) ?_
            refine Each.cons (m := 31) rfl (HopZ.of rfl (fun z E => HopAt.field (v := .pointer (some ⟨b', 0, none⟩)) (r := .pointer (some ⟨b', 4, none⟩)) (Want.some (d := 92) (z' := true) 26 rfl (by kernel_rfl) (by kernel_rfl) rfl) rfl (Ev.dep 29 (by kernel_rfl) (by kernel_rfl)) (fun w => rfl) (by kernel_rfl))) ?_
            refine Each.cons (m := 32) rfl (HopZ.of rfl (fun z E => HopAt.load (v := .pointer (some ⟨b', 4, none⟩)) (r := clV u.call) (Want.some (d := 92) (z' := true) 26 rfl (by kernel_rfl) (by kernel_rfl) rfl) rfl (Ev.dep 30 (by kernel_rfl) (by kernel_rfl)) (fun w h => HL_gc w h.1) (by kernel_rfl))) ?_
            refine Each.cons (m := 33) rfl (HopZ.of rfl (fun z E => HopAt.bin (u := clV (u.call)) (v := clV u.call) (r := .bool false) (Want.some (d := 92) (z' := true) 26 rfl (by kernel_rfl) (by kernel_rfl) rfl) rfl (Ev.dep 27 (by kernel_rfl) (by kernel_rfl)) (Ev.dep 31 (by kernel_rfl) (by kernel_rfl)) (fun w _ => (run_call_neq _)) (by kernel_rfl))) ?_
            refine Each.cons (m := 34) rfl (HopZ.of rfl (fun z E => HopAt.pick (z := true) (v := .bool false) (u := undef) (Want.some (d := 90) (z' := false) 24 rfl (by kernel_rfl) (by kernel_rfl) rfl) rfl (Ev.dep 26 (by kernel_rfl) (by kernel_rfl)) (fun _ => (Ev.dep 32 (by kernel_rfl) (by kernel_rfl))) (fun h => by cases h) (by kernel_rfl))) ?_
            refine Each.cons (m := 35) rfl (HopZ.of rfl (fun z E => HopAt.pick (z := false) (v := undef) (u := .bool false) (Want.none rfl) rfl (Ev.dep 24 (by kernel_rfl) (by kernel_rfl)) (fun h => by cases h) (fun _ => (Ev.dep 33 (by kernel_rfl) (by kernel_rfl))) (by kernel_rfl))) ?_
            refine Each.cons (m := 36) rfl (HopZ.of rfl (fun z E => HopAt.move (v := .bool false) (Want.none rfl) rfl (Ev.dep 34 (by kernel_rfl) (by kernel_rfl)) (by kernel_rfl))) ?_
            refine Each.cons (m := 37) rfl (HopZ.of rfl (fun z E => HopAt.move (v := .bool true) (Want.some (d := 101) (z' := false) 35 rfl (by kernel_rfl) (by kernel_rfl) rfl) rfl (Ev.free (by kernel_rfl) (by kernel_rfl)) (by kernel_rfl))) ?_
            refine Each.cons (m := 38) rfl (HopZ.of rfl (fun z E => HopAt.un (v := .bool true) (r := .bool false) (Want.some (d := 101) (z' := false) 35 rfl (by kernel_rfl) (by kernel_rfl) rfl) rfl (Ev.dep 36 (by kernel_rfl) (by kernel_rfl)) (fun w => rfl) (by kernel_rfl))) ?_
            refine Each.cons (m := 39) rfl (HopZ.of rfl (fun z E => HopAt.move (v := .bool false) (Want.some (d := 101) (z' := false) 35 rfl (by kernel_rfl) (by kernel_rfl) rfl) rfl (Ev.dep 37 (by kernel_rfl) (by kernel_rfl)) (by kernel_rfl))) ?_
            refine Each.cons (m := 40) rfl (HopZ.of rfl (fun z E => HopAt.no (Want.some (d := 104) (z' := false) 38 rfl (by kernel_rfl) (by kernel_rfl) rfl) (by kernel_rfl))) ?_
            refine Each.cons (m := 41) rfl (HopZ.of rfl (fun z E => HopAt.no (Want.some (d := 104) (z' := false) 38 rfl (by kernel_rfl) (by kernel_rfl) rfl) (by kernel_rfl))) ?_
            refine Each.cons (m := 42) rfl (HopZ.of rfl (fun z E => HopAt.no (Want.some (d := 104) (z' := false) 38 rfl (by kernel_rfl) (by kernel_rfl) rfl) (by kernel_rfl))) ?_
            refine Each.cons (m := 43) rfl (HopZ.of rfl (fun z E => HopAt.pick (z := false) (v := undef) (u := .bool false) (Want.some (d := 101) (z' := false) 35 rfl (by kernel_rfl) (by kernel_rfl) rfl) rfl (Ev.dep 38 (by kernel_rfl) (by kernel_rfl)) (fun h => by cases h) (fun _ => Ev.const) (by kernel_rfl))) ?_
            refine Each.cons (m := 44) rfl (HopZ.of rfl (fun z E => HopAt.pick (z := false) (v := undef) (u := .bool false) (Want.none rfl) rfl (Ev.dep 35 (by kernel_rfl) (by kernel_rfl)) (fun h => by cases h) (fun _ => (Ev.dep 42 (by kernel_rfl) (by kernel_rfl))) (by kernel_rfl))) ?_
            refine Each.cons (m := 45) rfl (HopZ.of rfl (fun z E => HopAt.move (v := .bool false) (Want.none rfl) rfl (Ev.dep 43 (by kernel_rfl) (by kernel_rfl)) (by kernel_rfl))) ?_
            refine Each.cons (m := 46) rfl (HopZ.of rfl (fun z E => HopAt.move (v := .pointer (some ⟨b, 0, none⟩)) (Want.some (d := 110) (z' := false) 44 rfl (by kernel_rfl) (by kernel_rfl) rfl) rfl (Ev.free (by kernel_rfl) (by kernel_rfl)) (by kernel_rfl))) ?_
            refine Each.cons (m := 47) rfl (HopZ.here rfl (fun z => (Want.some (d := 110) (z' := false) 44 rfl (by kernel_rfl) (by kernel_rfl) rfl)) (f := 17) (args := #[.pointer (some ⟨b, 0, none⟩)]) (fun z a w hk => run_call_17 rfl rfl ((Ev.dep 45 (by kernel_rfl) (by kernel_rfl)) a hk)) (fun z => by kernel_rfl) (fun w h => (ops_c w b u _ (Keep.mod Ht.out h (by simp)) (by omega)).mono (fun e w' h' => by obtain ⟨v, L, rfl, h1, h2, _⟩ := h'; exact ⟨v, rfl, h.tr h2, L, h1⟩))) ?_
            refine Each.cons (m := 48) rfl (HopZ.of rfl (fun z E => HopAt.move (v := .pointer (some ⟨b', 0, none⟩)) (Want.some (d := 110) (z' := false) 44 rfl (by kernel_rfl) (by kernel_rfl) rfl) rfl (Ev.free (by kernel_rfl) (by kernel_rfl)) (by kernel_rfl))) ?_
            refine Each.cons (m := 49) rfl (HopZ.of rfl (fun z E => HopAt.nil (p := ⟨b', 0, none⟩) (Want.some (d := 110) (z' := false) 44 rfl (by kernel_rfl) (by kernel_rfl) rfl) rfl (Ev.dep 47 (by kernel_rfl) (by kernel_rfl)) (by kernel_rfl))) ?_
            refine Each.cons (m := 50) rfl (HopZ.of rfl (fun z E => HopAt.field (v := .pointer (some ⟨b', 0, none⟩)) (r := .pointer (some ⟨b', 10, none⟩)) (Want.some (d := 110) (z' := false) 44 rfl (by kernel_rfl) (by kernel_rfl) rfl) rfl (Ev.dep 48 (by kernel_rfl) (by kernel_rfl)) (fun w => rfl) (by kernel_rfl))) ?_
            refine Each.cons (m := 51) rfl (HopZ.of rfl (fun z E => HopAt.load (v := .pointer (some ⟨b', 10, none⟩)) (r := .slice ra u.ops.length rcap) (Want.some (d := 110) (z' := false) 44 rfl (by kernel_rfl) (by kernel_rfl) rfl) rfl (Ev.dep 49 (by kernel_rfl) (by kernel_rfl)) (fun w h => HL_g10 w h.1) (by kernel_rfl))) ?_
            refine Each.cons (m := 52) rfl (HopZ.need rfl (by kernel_rfl) (fun z E hEG hEm => HopAt.call (f := 25) (args := #[z, .slice ra u.ops.length rcap]) (Want.some (d := 110) (z' := false) 44 rfl (by kernel_rfl) (by kernel_rfl) rfl) (fun a w hk _ => run_call_25 rfl rfl ((Ev.dep 46 (by kernel_rfl) (by kernel_rfl)) a hk) ((Ev.dep 50 (by kernel_rfl) (by kernel_rfl)) a hk)) (fun w h => by
                obtain ⟨La, hO⟩ := hEG w h.2
                refine (recs_c w z (.slice ra u.ops.length rcap) u.ops (Own.lx rc_lays hO) (HLx.out.mod h.1)).mono ?_
                rintro e w' ⟨rfl, hm⟩
                exact ⟨by kernel_rfl, h.1.tr hm, hEm _ _ hm h.2⟩))) ?_
            refine Each.cons (m := 53) rfl (HopZ.of rfl (fun z E => HopAt.un (v := .bool true) (r := .bool false) (Want.some (d := 110) (z' := false) 44 rfl (by kernel_rfl) (by kernel_rfl) rfl) rfl (Ev.dep 51 (by kernel_rfl) (by kernel_rfl)) (fun w => rfl) (by kernel_rfl))) ?_
            refine Each.cons (m := 54) rfl (HopZ.of rfl (fun z E => HopAt.pick (z := false) (v := undef) (u := .bool false) (Want.none rfl) rfl (Ev.dep 44 (by kernel_rfl) (by kernel_rfl)) (fun h => by cases h) (fun _ => (Ev.dep 52 (by kernel_rfl) (by kernel_rfl))) (by kernel_rfl))) ?_
            refine Each.cons (m := 55) rfl (HopZ.of rfl (fun z E => HopAt.move (v := .bool false) (Want.none rfl) rfl (Ev.dep 53 (by kernel_rfl) (by kernel_rfl)) (by kernel_rfl))) ?_
            refine Each.cons (m := 56) rfl (HopZ.of rfl (fun z E => HopAt.move (v := .pointer (some ⟨b, 0, none⟩)) (Want.some (d := 120) (z' := false) 54 rfl (by kernel_rfl) (by kernel_rfl) rfl) rfl (Ev.free (by kernel_rfl) (by kernel_rfl)) (by kernel_rfl))) ?_
            refine Each.cons (m := 57) rfl (HopZ.of rfl (fun z E => HopAt.call (f := 26) (args := #[.pointer (some ⟨b, 0, none⟩), .int .u64 0]) (Want.some (d := 120) (z' := false) 54 rfl (by kernel_rfl) (by kernel_rfl) rfl) (fun a w hk _ => run_call_26 rfl rfl ((Ev.dep 55 (by kernel_rfl) (by kernel_rfl)) a hk) (Ev.const a hk)) (fun w h => (need0_c w b u _ (Keep.mod Ht.out h.1 (by simp))).mono (fun e w' h' => by obtain ⟨rfl, rfl⟩ := h'; exact ⟨by kernel_rfl, h⟩)))) ?_
            refine Each.cons (m := 58) rfl (HopZ.of rfl (fun z E => HopAt.move (v := .pointer (some ⟨b', 0, none⟩)) (Want.some (d := 120) (z' := false) 54 rfl (by kernel_rfl) (by kernel_rfl) rfl) rfl (Ev.free (by kernel_rfl) (by kernel_rfl)) (by kernel_rfl))) ?_
            refine Each.cons (m := 59) rfl (HopZ.of rfl (fun z E => HopAt.call (f := 27) (args := #[.pointer (some ⟨b', 0, none⟩), .int .u64 0]) (Want.some (d := 120) (z' := false) 54 rfl (by kernel_rfl) (by kernel_rfl) rfl) (fun a w hk _ => run_call_27 rfl rfl ((Ev.dep 57 (by kernel_rfl) (by kernel_rfl)) a hk) (Ev.const a hk)) (fun w h => (rneed0_c w b' u _ (Keep.mod Hr.out h.1 (by simp))).mono (fun e w' h' => by obtain ⟨rfl, rfl⟩ := h'; exact ⟨by kernel_rfl, h⟩)))) ?_
            refine Each.cons (m := 60) rfl (HopZ.of rfl (fun z E => HopAt.bin (u := .int .u64 (u.need : Nat)) (v := .int .u64 (u.need : Nat)) (r := .bool false) (Want.some (d := 120) (z' := false) 54 rfl (by kernel_rfl) (by kernel_rfl) rfl) rfl (Ev.dep 56 (by kernel_rfl) (by kernel_rfl)) (Ev.dep 58 (by kernel_rfl) (by kernel_rfl)) (fun w _ => run_neqI) (by kernel_rfl))) ?_
            refine Each.cons (m := 61) rfl (HopZ.of rfl (fun z E => HopAt.pick (z := false) (v := undef) (u := .bool false) (Want.none rfl) rfl (Ev.dep 54 (by kernel_rfl) (by kernel_rfl)) (fun h => by cases h) (fun _ => (Ev.dep 59 (by kernel_rfl) (by kernel_rfl))) (by kernel_rfl))) ?_
            refine Each.cons (m := 62) rfl (HopZ.of rfl (fun z E => HopAt.move (v := .bool false) (Want.none rfl) rfl (Ev.dep 60 (by kernel_rfl) (by kernel_rfl)) (by kernel_rfl))) ?_
            refine Each.cons (m := 63) rfl (HopZ.of rfl (fun z E => HopAt.move (v := .pointer (some ⟨b, 0, none⟩)) (Want.some (d := 127) (z' := false) 61 rfl (by kernel_rfl) (by kernel_rfl) rfl) rfl (Ev.free (by kernel_rfl) (by kernel_rfl)) (by kernel_rfl))) ?_
            refine Each.cons (m := 64) rfl (HopZ.of rfl (fun z E => HopAt.move (v := .int .u64 (m : Nat)) (Want.some (d := 127) (z' := false) 61 rfl (by kernel_rfl) (by kernel_rfl) rfl) rfl (Ev.free (by kernel_rfl) (by kernel_rfl)) (by kernel_rfl))) ?_
            refine Each.cons (m := 65) rfl (HopZ.of rfl (fun z E => HopAt.call (f := 28) (args := #[.pointer (some ⟨b, 0, none⟩), .int .u64 (m : Nat)]) (Want.some (d := 127) (z' := false) 61 rfl (by kernel_rfl) (by kernel_rfl) rfl) (fun a w hk _ => run_call_28 rfl rfl ((Ev.dep 62 (by kernel_rfl) (by kernel_rfl)) a hk) ((Ev.dep 63 (by kernel_rfl) (by kernel_rfl)) a hk)) (fun w h => (idle_c w b u (m) _ (Keep.mod Ht.out h.1 (by simp)) (by omega)).mono (fun e w' h' => by obtain ⟨rfl, rfl⟩ := h'; exact ⟨by kernel_rfl, h⟩)))) ?_
            refine Each.cons (m := 66) rfl (HopZ.of rfl (fun z E => HopAt.move (v := .pointer (some ⟨b', 0, none⟩)) (Want.some (d := 127) (z' := false) 61 rfl (by kernel_rfl) (by kernel_rfl) rfl) rfl (Ev.free (by kernel_rfl) (by kernel_rfl)) (by kernel_rfl))) ?_
            refine Each.cons (m := 67) rfl (HopZ.of rfl (fun z E => HopAt.move (v := .int .u64 (m : Nat)) (Want.some (d := 127) (z' := false) 61 rfl (by kernel_rfl) (by kernel_rfl) rfl) rfl (Ev.free (by kernel_rfl) (by kernel_rfl)) (by kernel_rfl))) ?_
            refine Each.cons (m := 68) rfl (HopZ.of rfl (fun z E => HopAt.call (f := 29) (args := #[.pointer (some ⟨b', 0, none⟩), .int .u64 (m : Nat)]) (Want.some (d := 127) (z' := false) 61 rfl (by kernel_rfl) (by kernel_rfl) rfl) (fun a w hk _ => run_call_29 rfl rfl ((Ev.dep 65 (by kernel_rfl) (by kernel_rfl)) a hk) ((Ev.dep 66 (by kernel_rfl) (by kernel_rfl)) a hk)) (fun w h => (ridle_c w b' u (m) _ (Keep.mod Hr.out h.1 (by simp)) (by omega)).mono (fun e w' h' => by obtain ⟨rfl, rfl⟩ := h'; exact ⟨by kernel_rfl, h⟩)))) ?_
            refine Each.cons (m := 69) rfl (HopZ.of rfl (fun z E => HopAt.bin (u := .bool (idleB u (m))) (v := .bool (idleB u (m))) (r := .bool false) (Want.some (d := 127) (z' := false) 61 rfl (by kernel_rfl) (by kernel_rfl) rfl) rfl (Ev.dep 64 (by kernel_rfl) (by kernel_rfl)) (Ev.dep 67 (by kernel_rfl) (by kernel_rfl)) (fun w _ => run_neqB) (by kernel_rfl))) ?_
            refine Each.cons (m := 70) rfl (HopZ.of rfl (fun z E => HopAt.pick (z := false) (v := undef) (u := .bool false) (Want.none rfl) rfl (Ev.dep 61 (by kernel_rfl) (by kernel_rfl)) (fun h => by cases h) (fun _ => (Ev.dep 68 (by kernel_rfl) (by kernel_rfl))) (by kernel_rfl))) ?_
            refine Each.cons (m := 71) rfl (HopZ.of rfl (fun z E => HopAt.move (v := .bool false) (Want.none rfl) rfl (Ev.dep 69 (by kernel_rfl) (by kernel_rfl)) (by kernel_rfl))) ?_
            refine Each.cons (m := 72) rfl (HopZ.of rfl (fun z E => HopAt.move (v := .pointer (some ⟨b, 0, none⟩)) (Want.some (d := 136) (z' := false) 70 rfl (by kernel_rfl) (by kernel_rfl) rfl) rfl (Ev.free (by kernel_rfl) (by kernel_rfl)) (by kernel_rfl))) ?_
            refine Each.cons (m := 73) rfl (HopZ.of rfl (fun z E => HopAt.move (v := .int .u64 (m : Nat)) (Want.some (d := 136) (z' := false) 70 rfl (by kernel_rfl) (by kernel_rfl) rfl) rfl (Ev.free (by kernel_rfl) (by kernel_rfl)) (by kernel_rfl))) ?_
            refine Each.cons (m := 74) rfl (HopZ.of rfl (fun z E => HopAt.bin (u := .int .u64 (m : Nat)) (v := .int .u64 64) (r := .int .u64 (m + 64 : Nat)) (Want.some (d := 136) (z' := false) 70 rfl (by kernel_rfl) (by kernel_rfl) rfl) rfl (Ev.dep 72 (by kernel_rfl) (by kernel_rfl)) Ev.const (fun w _ => (run_addN (n := 64) (by omega))) (by kernel_rfl))) ?_
            refine Each.cons (m := 75) rfl (HopZ.of rfl (fun z E => HopAt.call (f := 28) (args := #[.pointer (some ⟨b, 0, none⟩), .int .u64 (m + 64 : Nat)]) (Want.some (d := 136) (z' := false) 70 rfl (by kernel_rfl) (by kernel_rfl) rfl) (fun a w hk _ => run_call_28 rfl rfl ((Ev.dep 71 (by kernel_rfl) (by kernel_rfl)) a hk) ((Ev.dep 73 (by kernel_rfl) (by kernel_rfl)) a hk)) (fun w h => (idle_c w b u (m + 64) _ (Keep.mod Ht.out h.1 (by simp)) (by omega)).mono (fun e w' h' => by obtain ⟨rfl, rfl⟩ := h'; exact ⟨by kernel_rfl, h⟩)))) ?_
            refine Each.cons (m := 76) rfl (HopZ.of rfl (fun z E => HopAt.move (v := .pointer (some ⟨b', 0, none⟩)) (Want.some (d := 136) (z' := false) 70 rfl (by kernel_rfl) (by kernel_rfl) rfl) rfl (Ev.free (by kernel_rfl) (by kernel_rfl)) (by kernel_rfl))) ?_
            refine Each.cons (m := 77) rfl (HopZ.of rfl (fun z E => HopAt.move (v := .int .u64 (m : Nat)) (Want.some (d := 136) (z' := false) 70 rfl (by kernel_rfl) (by kernel_rfl) rfl) rfl (Ev.free (by kernel_rfl) (by kernel_rfl)) (by kernel_rfl))) ?_
            refine Each.cons (m := 78) rfl (HopZ.of rfl (fun z E => HopAt.bin (u := .int .u64 (m : Nat)) (v := .int .u64 64) (r := .int .u64 (m + 64 : Nat)) (Want.some (d := 136) (z' := false) 70 rfl (by kernel_rfl) (by kernel_rfl) rfl) rfl (Ev.dep 76 (by kernel_rfl) (by kernel_rfl)) Ev.const (fun w _ => (run_addN (n := 64) (by omega))) (by kernel_rfl))) ?_
            refine Each.cons (m := 79) rfl (HopZ.of rfl (fun z E => HopAt.call (f := 29) (args := #[.pointer (some ⟨b', 0, none⟩), .int .u64 (m + 64 : Nat)]) (Want.some (d := 136) (z' := false) 70 rfl (by kernel_rfl) (by kernel_rfl) rfl) (fun a w hk _ => run_call_29 rfl rfl ((Ev.dep 75 (by kernel_rfl) (by kernel_rfl)) a hk) ((Ev.dep 77 (by kernel_rfl) (by kernel_rfl)) a hk)) (fun w h => (ridle_c w b' u (m + 64) _ (Keep.mod Hr.out h.1 (by simp)) (by omega)).mono (fun e w' h' => by obtain ⟨rfl, rfl⟩ := h'; exact ⟨by kernel_rfl, h⟩)))) ?_
            refine Each.cons (m := 80) rfl (HopZ.of rfl (fun z E => HopAt.bin (u := .bool (idleB u (m + 64))) (v := .bool (idleB u (m + 64))) (r := .bool false) (Want.some (d := 136) (z' := false) 70 rfl (by kernel_rfl) (by kernel_rfl) rfl) rfl (Ev.dep 74 (by kernel_rfl) (by kernel_rfl)) (Ev.dep 78 (by kernel_rfl) (by kernel_rfl)) (fun w _ => run_neqB) (by kernel_rfl))) ?_
            refine Each.cons (m := 81) rfl (HopZ.of rfl (fun z E => HopAt.pick (z := false) (v := undef) (u := .bool false) (Want.none rfl) rfl (Ev.dep 70 (by kernel_rfl) (by kernel_rfl)) (fun h => by cases h) (fun _ => (Ev.dep 79 (by kernel_rfl) (by kernel_rfl))) (by kernel_rfl))) ?_
            refine Each.cons (m := 82) rfl (HopZ.of rfl (fun z E => HopAt.move (v := .bool false) (Want.none rfl) rfl (Ev.dep 80 (by kernel_rfl) (by kernel_rfl)) (by kernel_rfl))) ?_
            refine Each.cons (m := 83) rfl (HopZ.of rfl (fun z E => HopAt.move (v := .pointer (some ⟨b, 0, none⟩)) (Want.some (d := 147) (z' := false) 81 rfl (by kernel_rfl) (by kernel_rfl) rfl) rfl (Ev.free (by kernel_rfl) (by kernel_rfl)) (by kernel_rfl))) ?_
            refine Each.cons (m := 84) rfl (HopZ.of rfl (fun z E => HopAt.move (v := .int .u64 (m : Nat)) (Want.some (d := 147) (z' := false) 81 rfl (by kernel_rfl) (by kernel_rfl) rfl) rfl (Ev.free (by kernel_rfl) (by kernel_rfl)) (by kernel_rfl))) ?_
            refine Each.cons (m := 85) rfl (HopZ.of rfl (fun z E => HopAt.move (v := .slice (some ⟨ab, off, none⟩) xs.length cap) (Want.some (d := 147) (z' := false) 81 rfl (by kernel_rfl) (by kernel_rfl) rfl) rfl (Ev.free (by kernel_rfl) (by kernel_rfl)) (by kernel_rfl))) ?_
            refine Each.cons (m := 86) rfl (HopZ.of rfl (fun z E => HopAt.move (v := .int .i64 (i : Nat)) (Want.some (d := 147) (z' := false) 81 rfl (by kernel_rfl) (by kernel_rfl) rfl) rfl (Ev.free (by kernel_rfl) (by kernel_rfl)) (by kernel_rfl))) ?_
            refine Each.cons (m := 87) rfl (HopZ.of rfl (fun z E => HopAt.index (u := .slice (some ⟨ab, off, none⟩) xs.length cap) (v := .int .i64 (i : Nat)) (r := .pointer (some ⟨ab, off + i * 12, none⟩)) (Want.some (d := 147) (z' := false) 81 rfl (by kernel_rfl) (by kernel_rfl) rfl) rfl (Ev.dep 84 (by kernel_rfl) (by kernel_rfl)) (Ev.dep 85 (by kernel_rfl) (by kernel_rfl)) (fun w => run_ix (by omega)) (by kernel_rfl))) ?_
            refine Each.cons (m := 88) rfl (HopZ.of rfl (fun z E => HopAt.field (v := .pointer (some ⟨ab, off + i * 12, none⟩)) (r := .pointer (some ⟨ab, off + i * 12 + 6, none⟩)) (Want.some (d := 147) (z' := false) 81 rfl (by kernel_rfl) (by kernel_rfl) rfl) rfl (Ev.dep 86 (by kernel_rfl) (by kernel_rfl)) (fun w => rfl) (by kernel_rfl))) ?_
            refine Each.cons (m := 89) rfl (HopZ.of rfl (fun z E => HopAt.load (v := .pointer (some ⟨ab, off + i * 12 + 6, none⟩)) (r := .int .u64 (x.n : Nat)) (Want.some (d := 147) (z' := false) 81 rfl (by kernel_rfl) (by kernel_rfl) rfl) rfl (Ev.dep 87 (by kernel_rfl) (by kernel_rfl)) (fun w h => HL_cx w h.1) (by kernel_rfl))) ?_
            refine Each.cons (m := 90) rfl (HopZ.of rfl (fun z E => HopAt.bin (u := .int .u64 (x.n : Nat)) (v := .int .u64 70) (r := .int .u64 (x.n % 70 : Nat)) (Want.some (d := 147) (z' := false) 81 rfl (by kernel_rfl) (by kernel_rfl) rfl) rfl (Ev.dep 88 (by kernel_rfl) (by kernel_rfl)) Ev.const (fun w _ => run_rem70) (by kernel_rfl))) ?_
            refine Each.cons (m := 91) rfl (HopZ.of rfl (fun z E => HopAt.bin (u := .int .u64 (m : Nat)) (v := .int .u64 (x.n % 70 : Nat)) (r := .int .u64 (m + x.n % 70 : Nat)) (Want.some (d := 147) (z' := false) 81 rfl (by kernel_rfl) (by kernel_rfl) rfl) rfl (Ev.dep 83 (by kernel_rfl) (by kernel_rfl)) (Ev.dep 89 (by kernel_rfl) (by kernel_rfl)) (fun w _ => (run_addN (by omega))) (by kernel_rfl))) ?_
            refine Each.cons (m := 92) rfl (HopZ.of rfl (fun z E => HopAt.call (f := 28) (args := #[.pointer (some ⟨b, 0, none⟩), .int .u64 (m + x.n % 70 : Nat)]) (Want.some (d := 147) (z' := false) 81 rfl (by kernel_rfl) (by kernel_rfl) rfl) (fun a w hk _ => run_call_28 rfl rfl ((Ev.dep 82 (by kernel_rfl) (by kernel_rfl)) a hk) ((Ev.dep 90 (by kernel_rfl) (by kernel_rfl)) a hk)) (fun w h => (idle_c w b u (m + x.n % 70) _ (Keep.mod Ht.out h.1 (by simp)) (by omega)).mono (fun e w' h' => by obtain ⟨rfl, rfl⟩ := h'; exact ⟨by kernel_rfl, h⟩)))) ?_
            refine Each.cons (m := 93) rfl (HopZ.of rfl (fun z E => HopAt.move (v := .pointer (some ⟨b', 0, none⟩)) (Want.some (d := 147) (z' := false) 81 rfl (by kernel_rfl) (by kernel_rfl) rfl) rfl (Ev.free (by kernel_rfl) (by kernel_rfl)) (by kernel_rfl))) ?_
            refine Each.cons (m := 94) rfl (HopZ.of rfl (fun z E => HopAt.move (v := .int .u64 (m : Nat)) (Want.some (d := 147) (z' := false) 81 rfl (by kernel_rfl) (by kernel_rfl) rfl) rfl (Ev.free (by kernel_rfl) (by kernel_rfl)) (by kernel_rfl))) ?_
            refine Each.cons (m := 95) rfl (HopZ.of rfl (fun z E => HopAt.move (v := .slice (some ⟨ab, off, none⟩) xs.length cap) (Want.some (d := 147) (z' := false) 81 rfl (by kernel_rfl) (by kernel_rfl) rfl) rfl (Ev.free (by kernel_rfl) (by kernel_rfl)) (by kernel_rfl))) ?_
            refine Each.cons (m := 96) rfl (HopZ.of rfl (fun z E => HopAt.move (v := .int .i64 (i : Nat)) (Want.some (d := 147) (z' := false) 81 rfl (by kernel_rfl) (by kernel_rfl) rfl) rfl (Ev.free (by kernel_rfl) (by kernel_rfl)) (by kernel_rfl))) ?_
            refine Each.cons (m := 97) rfl (HopZ.of rfl (fun z E => HopAt.index (u := .slice (some ⟨ab, off, none⟩) xs.length cap) (v := .int .i64 (i : Nat)) (r := .pointer (some ⟨ab, off + i * 12, none⟩)) (Want.some (d := 147) (z' := false) 81 rfl (by kernel_rfl) (by kernel_rfl) rfl) rfl (Ev.dep 94 (by kernel_rfl) (by kernel_rfl)) (Ev.dep 95 (by kernel_rfl) (by kernel_rfl)) (fun w => run_ix (by omega)) (by kernel_rfl))) ?_
            refine Each.cons (m := 98) rfl (HopZ.of rfl (fun z E => HopAt.field (v := .pointer (some ⟨ab, off + i * 12, none⟩)) (r := .pointer (some ⟨ab, off + i * 12 + 6, none⟩)) (Want.some (d := 147) (z' := false) 81 rfl (by kernel_rfl) (by kernel_rfl) rfl) rfl (Ev.dep 96 (by kernel_rfl) (by kernel_rfl)) (fun w => rfl) (by kernel_rfl))) ?_
            refine Each.cons (m := 99) rfl (HopZ.of rfl (fun z E => HopAt.load (v := .pointer (some ⟨ab, off + i * 12 + 6, none⟩)) (r := .int .u64 (x.n : Nat)) (Want.some (d := 147) (z' := false) 81 rfl (by kernel_rfl) (by kernel_rfl) rfl) rfl (Ev.dep 97 (by kernel_rfl) (by kernel_rfl)) (fun w h => HL_cx w h.1) (by kernel_rfl))) ?_
            refine Each.cons (m := 100) rfl (HopZ.of rfl (fun z E => HopAt.bin (u := .int .u64 (x.n : Nat)) (v := .int .u64 70) (r := .int .u64 (x.n % 70 : Nat)) (Want.some (d := 147) (z' := false) 81 rfl (by kernel_rfl) (by kernel_rfl) rfl) rfl (Ev.dep 98 (by kernel_rfl) (by kernel_rfl)) Ev.const (fun w _ => run_rem70) (by kernel_rfl))) ?_
            refine Each.cons (m := 101) rfl (HopZ.of rfl (fun z E => HopAt.bin (u := .int .u64 (m : Nat)) (v := .int .u64 (x.n % 70 : Nat)) (r := .int .u64 (m + x.n % 70 : Nat)) (Want.some (d := 147) (z' := false) 81 rfl (by kernel_rfl) (by kernel_rfl) rfl) rfl (Ev.dep 93 (by kernel_rfl) (by kernel_rfl)) (Ev.dep 99 (by kernel_rfl) (by kernel_rfl)) (fun w _ => (run_addN (by omega))) (by kernel_rfl))) ?_
            refine Each.cons (m := 102) rfl (HopZ.of rfl (fun z E => HopAt.call (f := 29) (args := #[.pointer (some ⟨b', 0, none⟩), .int .u64 (m + x.n % 70 : Nat)]) (Want.some (d := 147) (z' := false) 81 rfl (by kernel_rfl) (by kernel_rfl) rfl) (fun a w hk _ => run_call_29 rfl rfl ((Ev.dep 92 (by kernel_rfl) (by kernel_rfl)) a hk) ((Ev.dep 100 (by kernel_rfl) (by kernel_rfl)) a hk)) (fun w h => (ridle_c w b' u (m + x.n % 70) _ (Keep.mod Hr.out h.1 (by simp)) (by omega)).mono (fun e w' h' => by obtain ⟨rfl, rfl⟩ := h'; exact ⟨by kernel_rfl, h⟩)))) ?_
            refine Each.cons (m := 103) rfl (HopZ.of rfl (fun z E => HopAt.bin (u := .bool (idleB u (m + x.n % 70))) (v := .bool (idleB u (m + x.n % 70))) (r := .bool false) (Want.some (d := 147) (z' := false) 81 rfl (by kernel_rfl) (by kernel_rfl) rfl) rfl (Ev.dep 91 (by kernel_rfl) (by kernel_rfl)) (Ev.dep 101 (by kernel_rfl) (by kernel_rfl)) (fun w _ => run_neqB) (by kernel_rfl))) ?_
            refine Each.cons (m := 104) rfl (HopZ.of rfl (fun z E => HopAt.pick (z := false) (v := undef) (u := .bool false) (Want.none rfl) rfl (Ev.dep 81 (by kernel_rfl) (by kernel_rfl)) (fun h => by cases h) (fun _ => (Ev.dep 102 (by kernel_rfl) (by kernel_rfl))) (by kernel_rfl))) ?_
            trivial
          case hQ =>
            intro z W6 hM6 hO6
            have HT6 := hid (HT5.out.mod hM6)
            have Ht6 := hid (Keep.mod Ht.out hM6 (by simp))
            clear HL_g0 HL_g1 HL_g3 HL_gc HL_g10 HL_cx HL_qc hT5 HT5 Hr HLx hbl' hql hgc hn1 hn2 Ht hM6 hO6
            simp only [List.toList_toArray, List.take_succ_cons, List.take_zero, List.drop_succ_cons, List.drop_zero, List.cons_append, List.nil_append, List.size_toArray, List.length_cons, List.length_nil]
            go_wp2_with fail
            refine (ops_c W6 b u Lt Ht6.out (by omega)).mono ?_
            intro e W7 hs
            obtain ⟨v, rfl, hT7⟩ := HT6.out.clone hs
            obtain ⟨Lo, ho⟩ := hT7.res
            obtain ⟨oa, ocap, rfl, hoc, hoc2, hog⟩ := Own.val ho
            have HT7 := hid hT7
            have Hog : Hid (0 < u.ops.length → ∃ g, oa = some ⟨g, 0, none⟩) := fun h => ⟨_, (hog h).choose_spec.1⟩
            clear hs hT7 HT6 Ht6 ho hog
            obtain ⟨og, rfl⟩ : ∃ og, og = gk := ⟨_, rfl⟩
            go_wp2
            go_loopg [12] u.ops.length (fun g p wr => ∃ (k : Nat) (ys : List Value), p = .int .i64 (k : Int) ∧ k + g = u.ops.length ∧ Hid (Top w (star (rowR 32 4 (.slice oa u.ops.length ocap) u.ops.length ys) (star (boxR q (clC u.call) 24) (star (txR b u) (star (rxR b' u) emp)))) wr))
            · exact ⟨0, _, rfl, by omega, HT7.out⟩
            · obtain ⟨k, ys, rfl, hk, hTk⟩ := hrel
              by_cases hlk : k < u.ops.length
              · obtain ⟨g, rfl⟩ := Hog.out (by omega)
                obtain ⟨Lq, hq⟩ := hTk.out.res
                obtain ⟨_, ⟨cur, hbk⟩, _⟩ := Own.blk hq
                have hfr := hbk.free (k * 4)
                have hk1 : (k : Int) < (u.ops.length : Int) := by omega
                have hk0 : (0 : Int) ≤ (k : Int) := by omega
                have hgl := hbk.lt
                have hcl : ∃ v0, wr.cell? ⟨g, k * 4, none⟩ = some v0 := by
                  obtain ⟨_, _, e0, _, _, hc⟩ := Own.val hq
                  obtain ⟨g', e1, _, hc⟩ := hc (by omega)
                  cases e0
                  cases e1
                  have hl := hq.1
                  exact ⟨_, (hc (k * 4) (by omega)).trans (List.getElem?_eq_getElem (by omega))⟩
                obtain ⟨v0, hv0⟩ := hcl
                clear hq hbk
                go_wp2
                go_roundg (gk - 1)
                case measure => omega
                case rel => exact ⟨k + 1, _, by go_num, by omega, hTk.out.rowSet (k * 4) (by omega) _⟩
              · have hk1 : ¬ ((k : Int) < (u.ops.length : Int)) := by omega
                go_wp2
                go_roundg (og - 1)
                case measure => omega
                case rel => exact ⟨i + 1, m, u, rfl, by go_num, by omega, hm1, HK2.out, by omega, by omega, hTk.out.drop.drop⟩
      · have hTf := hT
        clear hT
        obtain ⟨Lt, ht⟩ := hTf.out.res
        obtain ⟨Lr, hr⟩ := hTf.out.drop.res
        obtain ⟨ra, rcap, ⟨g0, g1, g3⟩, _, g10, hlx, hbl'⟩ := hr.cells
        have Ht := hid ht
        have HLx := hid hlx
        have hl1 : t.ops.length ≤ 1000 := by omega
        clear ht hr hlx g0 g1 g3 hbl'
        rcases (by omega : ¬ i < xs.length ∨ (i < xs.length ∧ ¬ i < 60)) with h1 | ⟨h1, h2⟩
        all_goals
          go_upto_region 19 with (fail)
          go_region_held3 (fun X => Mod [] wr X ∧ X.cell? ⟨b', 10, none⟩ = some (.slice ra t.ops.length rcap))
            (first
              | exact ⟨(Mod.refl [] wr).drew, g10⟩
              | assumption
              | exact ⟨Mod.tr (And.left ‹Mod [] wr _ ∧ _›) hm, (hm.cellSome (And.right ‹Mod [] wr _ ∧ _›) (by simp))⟩
              | fail)
            (first
              | (go_at_call 17; refine (ops_c _ b t Lt (Keep.mod Ht.out (Mod.refl [] wr).drew (by simp)) hl1).mono ?_; rintro e w' ⟨v, Lo, rfl, ho, hm, _⟩)
              | (go_at_call 25; refine (recs_c _ _ _ t.ops (Own.lx rc_lays ho) (HLx.out.mod (And.left ‹Mod [] wr _ ∧ _›))).mono ?_; rintro e w' ⟨rfl, hm⟩)
              | (go_at_call 10; refine (works_c _).mono ?_; rintro e w' ⟨rfl, hm⟩)
              | fail)
          go_wp2
          go_ret
          exact ⟨rfl, hTf.out.m.tr (And.left ‹Mod [] wr _ ∧ _›)⟩
end Go.Proofs.Ytocfeeecgpklnaa
