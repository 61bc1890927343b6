/- Two lists alike; two outcomes alike. -/
import Derived.Test.YtocfeeecgpklnaaTXU
import Derived.Laws.StructEq
namespace Go.Proofs.Ytocfeeecgpklnaa
set_option linter.unusedVariables false
set_option linter.unusedSimpArgs false
set_option linter.unusedSectionVars false
open Go.RowKit Go.Shelf

structure Pr where
  key : ByteArray
  val : ByteArray
def prC (p : Pr) : List Value := [.string p.key, .string p.val]
theorem pr_lays : Lays 2 prC := ⟨fun _ => rfl, fun x u hu => by simp [prC] at hu; rcases hu with rfl | rfl <;> rfl, by decide⟩

theorem rec_u : Try.prog.underlying 32 = some (.struct (Try.prog.fieldsOf 32)) := by kernel_rfl
theorem rec_h : Try.prog.stoodInHeld 32 = false := by kernel_rfl
theorem rec_g : Try.prog.eqGuardType Try.prog.depth 32 = false := by kernel_rfl
theorem pair_u : Try.prog.underlying 86 = some (.struct (Try.prog.fieldsOf 86)) := by kernel_rfl
theorem pair_h : Try.prog.stoodInHeld 86 = false := by kernel_rfl
theorem pair_g : Try.prog.eqGuardType Try.prog.depth 86 = false := by kernel_rfl
theorem call_u : Try.prog.underlying 24 = some (.struct (Try.prog.fieldsOf 24)) := by kernel_rfl
theorem call_h : Try.prog.stoodInHeld 24 = false := by kernel_rfl
theorem call_g : Try.prog.eqGuardType Try.prog.depth 24 = false := by kernel_rfl

theorem rec_neq (x : Rc) (w : World) : (binOp .neq 32 (rcV x) (rcV x)).run Try.prog w = .ok (.bool false) w := by
  have h1 := Try.underlying9
  have h2 := Try.underlying22
  have h3 := Try.underlying4
  have h4 := rec_h
  rw [run_neq_struct, run_equalIn_agg w 9999 _ _ _ rec_u rec_h]
  simp only [Program.fieldsOf, Try.underlying32]
  go_simp
theorem pair_neq (x : Pr) (w : World) : (binOp .neq 86 (.agg #[.string x.key, .string x.val]) (.agg #[.string x.key, .string x.val])).run Try.prog w = .ok (.bool false) w := by
  have h1 := Try.underlying9
  have h4 := pair_h
  rw [run_neq_struct, run_equalIn_agg w 9999 _ _ _ pair_u pair_h]
  simp only [Program.fieldsOf, Try.underlying86]
  go_simp
theorem call_neq (x : Cl) (w : World) : (binOp .neq 24 (clV x) (clV x)).run Try.prog w = .ok (.bool false) w := by
  have h1 := Try.underlying9
  have h2 := Try.underlying22
  have h3 := Try.underlying3
  have h4 := call_h
  rw [run_neq_struct, run_equalIn_agg w 9999 _ _ _ call_u call_h]
  simp only [Program.fieldsOf, Try.underlying24]
  go_simp

set_option maxRecDepth 100000 in
set_option maxHeartbeats 1000000 in
theorem recs_c (w : World) (u v : Value) (l : List Rc) (h1 : Lx 4 rcC w u l) (h2 : Lx 4 rcC w v l) :
    Calls Try.prog 25 #[u, v] w fun e w' => e = .returned (.bool true) ∧ Mod [] w w' := by
  have H1 := hid h1
  have H2 := hid h2
  obtain ⟨a1, c1, rfl, _, hl⟩ := h1
  obtain ⟨a2, c2, rfl, _, _⟩ := h2
  have hg := rec_g
  go_enter Try.func25, Try.ntmps25
  go_wp2
  go_loopg [5] l.length (fun g p wr => ∃ i : Nat, p = .int .i64 i ∧ i + g = l.length ∧ Hid (Mod [] w wr))
  · exact ⟨0, rfl, by omega, Mod.refl _ _⟩
  · obtain ⟨i, rfl, hi, hM⟩ := hrel
    by_cases hlt : i < l.length
    · have hlti : (i : Int) < (l.length : Int) := by omega
      have hi0 : (0 : Int) ≤ (i : Int) := by omega
      obtain ⟨x, hx⟩ : ∃ x, l[i]? = some x := ⟨_, List.getElem?_eq_getElem (by omega)⟩
      obtain ⟨b1, o1, rfl, hc⟩ := (H1.out.mod hM.out).at hx
      obtain ⟨b2, o2, rfl, hd⟩ := (H2.out.mod hM.out).at hx
      have k0 := hc 0 _ rfl
      have k1 := hc 1 _ rfl
      have k2 := hc 2 _ rfl
      have k3 := hc 3 _ rfl
      have j0 := hd 0 _ rfl
      have j1 := hd 1 _ rfl
      have j2 := hd 2 _ rfl
      have j3 := hd 3 _ rfl
      simp only [Nat.add_zero] at k0 j0
      have hn := rec_neq x
      clear hx hc hd
      go_upto_region 6 with (fail)
      go_region
      all_goals
        go_wp2
        go_roundg (gk - 1)
        case measure => omega
        case rel => exact ⟨i + 1, by go_num, by omega, hM.out.drew⟩
    · have hlti : ¬ (i : Int) < (l.length : Int) := by omega
      go_wp2
      go_ret
      exact ⟨rfl, hM.out⟩

set_option maxRecDepth 100000 in
set_option maxHeartbeats 2000000 in
theorem outcomes_c (w : World) (o : Oc) (ps : List Pr) (h : Lx 2 prC w (.slice o.pa o.pl o.pc) ps) :
    Calls Try.prog 51 #[ocV o, ocV o] w fun e w' => e = .returned (.bool true) ∧ Mod [] w w' := by
  have H := hid h
  obtain ⟨hl1, hl2⟩ := h.len
  obtain ⟨ts, n, er, fo, vl, pa, pl, pc⟩ := o
  simp only at hl1 hl2
  subst hl1
  have hM := ((Mod.refl [] w).alloc (.cells (ocC ⟨ts, n, er, fo, vl, pa, ps.length, pc⟩) 54)).alloc (.cells (ocC ⟨ts, n, er, fo, vl, pa, ps.length, pc⟩) 54)
  have hP := (Blk.new w (ocC ⟨ts, n, er, fo, vl, pa, ps.length, pc⟩) 54).alloc (.cells (ocC ⟨ts, n, er, fo, vl, pa, ps.length, pc⟩) 54)
  have hQ := Blk.new (w.alloc (.cells (ocC ⟨ts, n, er, fo, vl, pa, ps.length, pc⟩) 54)) (ocC ⟨ts, n, er, fo, vl, pa, ps.length, pc⟩) 54
  rw [World.size_alloc] at hQ
  have HM := hid hM
  have HP := hid hP
  have HQ := hid hQ
  have hg := pair_g
  clear hM hP hQ
  go_enter Try.func51, Try.ntmps51
  go_upto_region 1 with (fail)
  generalize ((w.alloc (.cells (ocC ⟨ts, n, er, fo, vl, pa, ps.length, pc⟩) 54)).alloc (.cells (ocC ⟨ts, n, er, fo, vl, pa, ps.length, pc⟩) 54)) = W at *
  generalize w.heap.size = p at *
  obtain ⟨⟨p0, p1, p2, p3, p4, p5⟩, _⟩ := HP.out.oc
  obtain ⟨⟨q0, q1, q2, q3, q4, q5⟩, _⟩ := HQ.out.oc
  have hpl := HP.out.lt
  have hql := HQ.out.lt
  simp only at p0 p1 p2 p3 p4 p5 q0 q1 q2 q3 q4 q5
  go_upto_region 3 with (fail)
  have P5 := hid p5
  have Q5 := hid q5
  clear p0 p1 p2 p3 p4 p5 q0 q1 q2 q3 q4 q5
  go_wp2
  go_loopg [5] ps.length (fun g p wr => ∃ i : Nat, p = .int .i64 i ∧ i + g = ps.length ∧ Hid (Mod [] W wr))
  · exact ⟨0, rfl, by omega, Mod.refl _ _⟩
  · obtain ⟨i, rfl, hi, hM⟩ := hrel
    have p5 := hM.out.cellSome P5.out (by simp)
    have q5 := hM.out.cellSome Q5.out (by simp)
    have hplr := Nat.lt_of_lt_of_le hpl hM.out.size
    have hqlr := Nat.lt_of_lt_of_le hql hM.out.size
    by_cases hlt : i < ps.length
    · have hlti : (i : Int) < (ps.length : Int) := by omega
      have hi0 : (0 : Int) ≤ (i : Int) := by omega
      obtain ⟨x, hx⟩ : ∃ x, ps[i]? = some x := ⟨_, List.getElem?_eq_getElem (by omega)⟩
      obtain ⟨b1, o1, rfl, hc⟩ := ((H.out.mod HM.out).mod hM.out).at hx
      have k0 := hc 0 _ rfl
      have k1 := hc 1 _ rfl
      simp only [Nat.add_zero] at k0
      have hn := pair_neq x
      clear hx hc
      go_upto_region 6 with (fail)
      go_region
      all_goals
        go_wp2
        go_roundg (gk - 1)
        case measure => omega
        case rel => exact ⟨i + 1, by go_num, by omega, hM.out.drew⟩
    · have hlti : ¬ (i : Int) < (ps.length : Int) := by omega
      go_wp2
      go_ret
      exact ⟨rfl, HM.out.tr hM.out⟩
end Go.Proofs.Ytocfeeecgpklnaa
