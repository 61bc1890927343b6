/- The law's short and call. -/
import Derived.Test.YtocfeeecgpklnaaTXO
namespace Go.Proofs.Ytocfeeecgpklnaa
set_option linter.unusedVariables false
set_option linter.unusedSimpArgs false
set_option linter.unusedSectionVars false
open Go.RowKit Go.Shelf

/-- 40 bytes at most. -/
def shortB (s : ByteArray) : ByteArray := s.extract 0 (min 40 s.size)
theorem shortB_size (s : ByteArray) : (shortB s).size ≤ 40 := by unfold shortB; rw [ByteArray.size_extract]; omega
set_option maxRecDepth 100000 in
theorem short_c (s : ByteArray) (w : World) (hs : s.size ≤ 9223372036854775807) : Calls Try.prog 15 #[.string s] w fun e w' => e = .returned (.string (shortB s)) ∧ w = w' := by
  go_enter Try.func15, Try.ntmps15
  go_wp2
  go_ret
  refine ⟨?_, rfl⟩
  show Ending.returned (.string (s.extract 0 (min (s.size : Int) 40).toNat)) = _
  unfold shortB
  rw [show (min (s.size : Int) 40).toNat = min 40 s.size by omega]

/-- What is done. -/
structure Ac where
  what : Int
  c : Cl
  n : Nat
  r : Rc
  v : ByteArray
def acC (x : Ac) : List Value := [.int .i64 x.what, .int .i64 x.c.kind, .int .u64 x.c.ts, .string x.c.key, .string x.c.hi, .string x.c.val, .int .u64 x.n, .string x.r.key, .int .u64 x.r.ln, .bool x.r.dl, .string x.r.vl, .string x.v]
abbrev acV (x : Ac) : Value := .agg #[.int .i64 x.what, .int .i64 x.c.kind, .int .u64 x.c.ts, .string x.c.key, .string x.c.hi, .string x.c.val, .int .u64 x.n, .string x.r.key, .int .u64 x.r.ln, .bool x.r.dl, .string x.r.vl, .string x.v]
abbrev acA (x : Ac) : Array Value := #[.int .i64 x.what, .int .i64 x.c.kind, .int .u64 x.c.ts, .string x.c.key, .string x.c.hi, .string x.c.val, .int .u64 x.n, .string x.r.key, .int .u64 x.r.ln, .bool x.r.dl, .string x.r.vl, .string x.v]
def shC (c : Cl) : Cl := { c with key := shortB c.key, hi := shortB c.hi, val := shortB c.val }

theorem res_cl1 {fn : Func} {p : Tmp} (h : fn.results = #[.cell p 24]) (tmps : Array Value) (w : World) (g : Nat) (c : Cl) (hp : tmps.getD p undef = .pointer (some ⟨g, 0, none⟩)) (hg : Blk w g (clC c) 24) :
    (results fn tmps).run Try.prog w = .ok (clV c) w :=
  results_cell_row h tmps w g _ (clC c) (0, 0) _ hp hg Try.underlying24 rfl cl_info

set_option maxRecDepth 100000 in
theorem lcall_c (w : World) (x : Ac) (h1 : x.c.key.size ≤ 9223372036854775807) (h2 : x.c.hi.size ≤ 9223372036854775807) (h3 : x.c.val.size ≤ 9223372036854775807) :
    Calls Try.prog 11 #[acV x] w fun e w' => e = .returned (clV (shC x.c)) ∧ Mod [] w w' := by
  have HW := hid ((((Mod.refl [] w).alloc (.cells (acA x) 34)).alloc (.cells (clC (shC x.c)) 24)).alloc (.cells (clC (shC x.c)) 24))
  have HB := hid ((Blk.new (w.alloc (.cells (acA x) 34)) (clC (shC x.c)) 24).alloc (.cells (clC (shC x.c)) 24))
  go_enter Try.func11, Try.ntmps11
  go_upto_region 2 with (fail)
  go_wp2_with (go_at_call 15; refine (short_c _ _ (by assumption)).mono ?_; rintro e w' ⟨rfl, rfl⟩)
  refine bodyPost_ret (res_cl1 rfl _ _ (w.heap.size + 1) (shC x.c) rfl ?_) rfl ?_
  · exact (World.size_alloc w _) ▸ HB.out
  · exact ⟨rfl, HW.out⟩

theorem Top.new {w0 w w' : World} {R R' : Res} [Keep R] {r : Value} {e : Ending} (h : Top w0 R w) (s : Says w [] r R' e w') : e = .returned r ∧ Top w0 (star R' R) w' := by
  obtain ⟨rfl, L, h1, h2, h3⟩ := s
  exact ⟨rfl, h.made h1 h2 (fun k hk => (h3 k hk).resolve_left (by simp))⟩
theorem rxR.cell {w : World} {b : Nat} {t : Tx} {L : List Nat} (h : rxR b t w L) : ∃ v, Blk w b (rxC t v) 41 := by
  obtain ⟨v, M, hb, _⟩ := h
  exact ⟨v, hb⟩

set_option maxRecDepth 100000 in
set_option maxHeartbeats 1000000 in
theorem takes_c (ts : Nat) (c : Cl) (w : World) (h1 : c.key.size ≤ 9223372036854775807) (h2 : c.hi.size ≤ 9223372036854775807) (h3 : c.val.size ≤ 9223372036854775807) :
    Calls Try.prog 3 #[.int .u64 ts, clV c] w fun e w' => e = .returned (.bool true) ∧ Mod [] w w' := by
  rcases Nat.eq_zero_or_pos ts with h0 | h0
  · subst h0
    have HW := hid ((Mod.refl [] w).alloc (.cells (clC c) 24))
    go_enter Try.func3, Try.ntmps3
    go_wp2_with (first
      | (go_at_call 8; refine (new_nil _ 0).mono ?_; rintro e w' ⟨rfl, rfl⟩)
      | (go_at_call 9; refine (rnew_nil _ 0).mono ?_; rintro e w' ⟨rfl, rfl⟩)
      | (go_at_call 10; refine (works_c _).mono ?_; rintro e w' ⟨rfl, hm⟩; have Hm := hid hm; clear hm))
    go_ret
    exact ⟨rfl, HW.out.tr Hm.out⟩
  · have HW := hid ((Mod.refl [] w).alloc (.cells (clC c) 24))
    have hB := (Blk.new w (clC c) 24)
    have q0 := hB.cell 0
    have q1 := hB.cell 1
    have q2 := hB.cell 2
    have q3 := hB.cell 3
    have q4 := hB.cell 4
    have hpl := hB.lt
    simp only [List.getElem?_toArray, List.getElem?_cons_zero, List.getElem?_cons_succ] at q0 q1 q2 q3 q4
    have HB := hid hB
    clear hB
    have hts : ts ≠ 0 := by omega
    go_enter Try.func3, Try.ntmps3
    go_upto_region 1 with (fail)
    generalize w.alloc (.cells (clC c) 24) = W at *
    generalize w.heap.size = p at *
    have HT := hid (Top.start W)
    go_wp2_with fail
    refine (new_c W ts 0 hts).mono ?_
    intro e w1 hs
    obtain ⟨rfl, hT1⟩ := HT.out.new hs
    have HW1 := hid (HT.out.m.tr (Mod.refl [] W))
    have HT1 := hid hT1
    have HM1 := hid (hs.2.choose_spec.2.1)
    clear hT1 hs HT
    generalize W.heap.size = b at *
    go_wp2_with fail
    refine (rnew_c w1 ts 0 hts).mono ?_
    intro e w2 hs
    obtain ⟨rfl, hT2⟩ := HT1.out.new hs
    have HT2 := hid hT2
    have HM2 := hid (HM1.out.tr hs.2.choose_spec.2.1)
    clear hT2 hs HT1 HM1
    generalize w1.heap.size = b' at *
    have k0 := HM2.out.cellSome q0 (by simp)
    have k1 := HM2.out.cellSome q1 (by simp)
    have k2 := HM2.out.cellSome q2 (by simp)
    have k3 := HM2.out.cellSome q3 (by simp)
    have k4 := HM2.out.cellSome q4 (by simp)
    clear q0 q1 q2 q3 q4 HM2 HB
    go_upto_region 5 with (go_at_call 11; refine (lcall_c _ ⟨0, c, 0, ⟨⟨#[]⟩, 0, false, ⟨#[]⟩⟩, ⟨#[]⟩⟩ h1 h2 h3).mono ?_; rintro e w' ⟨rfl, hm⟩; have HT3 := hid (HT2.out.mod hm); clear hm)
    have hT4 := HT3.out.box (clC (shC c)) 24
    generalize shC c = cc at *
    clear HT2 HT3 k0 k1 k2 k3 k4
    have hB := hT4.get
    have e0 := hB.cell 0
    have e1 := hB.cell 1
    have e2 := hB.cell 2
    have e3 := hB.cell 3
    have e4 := hB.cell 4
    have hql := hB.lt
    simp only [List.getElem?_toArray, List.getElem?_cons_zero, List.getElem?_cons_succ] at e0 e1 e2 e3 e4
    have HT4 := hid hT4
    clear hT4 hB
    generalize w'.alloc (.cells (clC cc) 24) = w4 at *
    generalize w'.heap.size = q at *
    go_wp2_with fail
    refine (HT4.out.swap2.swap.call (fun L hL => call_c w4 b (tx0 ts 0) cc 9 L hL Kr.nil (Nat.zero_le _) (Nat.zero_le _))).mono ?_
    rintro e w5 ⟨rfl, hT5⟩
    have hB := hT5.swap.get
    clear e0 e1 e2 e3 e4 hql HT4
    have e0 := hB.cell 0
    have e1 := hB.cell 1
    have e2 := hB.cell 2
    have e3 := hB.cell 3
    have e4 := hB.cell 4
    have hql := hB.lt
    simp only [List.getElem?_toArray, List.getElem?_cons_zero, List.getElem?_cons_succ] at e0 e1 e2 e3 e4
    have HT5 := hid hT5
    clear hT5 hB
    go_wp2_with fail
    refine (HT5.out.swap.swap2.swap.call (fun L hL => rcall_c w5 b' (tx0 ts 0) cc 9 L hL (Nat.zero_le _) (Nat.zero_le _))).mono ?_
    rintro e w6 ⟨rfl, hT6⟩
    clear e0 e1 e2 e3 e4 hql HT5
    have HT6 := hid hT6
    obtain ⟨Lr, hr⟩ := hT6.res
    obtain ⟨v, hb⟩ := hr.cell
    have r1 : w6.cell? ⟨b', 1, none⟩ = some (.int .i64 (callT (tx0 ts 0) cc 9).state) := hb.cell 1
    have hbl := hb.lt
    obtain ⟨Lt, ht⟩ := hT6.drop.drop.res
    have Ht := hid ht
    clear hT6 hr hb ht
    go_upto_region 7 with (fail)
    go_region_held3 (fun X => Mod [] w6 X ∧ X.cell? ⟨b', 1, none⟩ = some (.int .i64 (callT (tx0 ts 0) cc 9).state))
      (first | exact ⟨(Mod.refl [] w6).drew, r1⟩ | assumption | exact ⟨Mod.tr (And.left ‹Mod [] w6 _ ∧ _›) hm, Mod.cellSome (Mod.tr (And.left ‹Mod [] w6 _ ∧ _›) hm) r1 (by simp)⟩ | fail)
      (first
        | (go_at_call 14; (with_reducible refine (state_c _ b (callT (tx0 ts 0) cc 9) Lt (Keep.mod Ht.out (And.left ‹Mod [] w6 _ ∧ _›) (by simp))).mono ?_); rintro e w' ⟨rfl, rfl⟩)
        | (go_at_call 10; (with_reducible refine (works_c _).mono ?_); rintro e w' ⟨rfl, hm⟩)
        | fail)
    go_wp2
    go_ret
    exact ⟨rfl, HW.out.tr (HT6.out.m.tr (And.left ‹Mod [] w6 _ ∧ _›))⟩
end Go.Proofs.Ytocfeeecgpklnaa
