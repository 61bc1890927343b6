/- The chapter's rows ('works'). -/
import Derived.Test.YtmcflfknaleljaaO1
import Derived.Deep.RegionHeld3
namespace Go.Proofs.Ytmcflfknaleljaa
set_option linter.unusedVariables false
set_option linter.unusedSimpArgs false
set_option linter.unusedSectionVars false
open Go.RowKit

def fA : Fr := ⟨0, ⟨#[97]⟩⟩
def fB : Fr := ⟨1, ⟨#[98]⟩⟩
def fC : Fr := ⟨2, ⟨#[99]⟩⟩
def fD : Fr := ⟨0, ⟨#[]⟩⟩

theorem emp_a : (⟨#[97]⟩ : ByteArray).toList = [97] := by decide +kernel
theorem emp_b : (⟨#[98]⟩ : ByteArray).toList = [98] := by decide +kernel
theorem emp_0 : (⟨#[]⟩ : ByteArray).toList = [] := by decide +kernel

set_option maxRecDepth 100000 in
set_option maxHeartbeats 4000000 in
theorem works_c (w : World) : Calls Try.prog 19 #[] w fun e w' => e = .returned (.bool true) ∧ Mod [] w w' := by
  go_enter Try.func19, Try.ntmps19
  go_wp2_with fail
  refine (new_t (Top.start w)).mono ?_
  rintro e w1 ⟨rfl, h1⟩
  have h1' := hid h1
  clear h1
  go_wp2_with fail
  refine (h1'.out.read (to_c w1 0 ⟨#[97]⟩)).mono ?_
  rintro e w2 ⟨rfl, h2⟩
  have h2' := hid h2
  clear h2
  go_wp2_with fail
  refine (put_t h2'.out fA).mono ?_
  rintro e w3 ⟨rfl, h3⟩
  have h3' := hid h3
  clear h3
  rw [show putE [] fA = 0 by decide +kernel]
  go_wp2_with fail
  refine (h3'.out.read (to_c w3 1 ⟨#[98]⟩)).mono ?_
  rintro e w4 ⟨rfl, h4⟩
  have h4' := hid h4
  clear h4
  go_wp2_with fail
  refine (put_t h4'.out fB).mono ?_
  rintro e w5 ⟨rfl, h5⟩
  have h5' := hid h5
  clear h5
  rw [show putE (putL [] fA) fB = 0 by decide +kernel]
  go_wp2_with fail
  refine (h5'.out.read (to_c w5 2 ⟨#[99]⟩)).mono ?_
  rintro e w6 ⟨rfl, h6⟩
  have h6' := hid h6
  clear h6
  go_wp2_with fail
  refine (put_t h6'.out fC).mono ?_
  rintro e w7 ⟨rfl, h7⟩
  have h7' := hid h7
  clear h7
  rw [show putE (putL (putL [] fA) fB) fC = 2 by decide +kernel]
  go_wp2_with fail
  refine (h7'.out.read (to_c w7 0 ⟨#[]⟩)).mono ?_
  rintro e w8 ⟨rfl, h8⟩
  have h8' := hid h8
  clear h8
  go_wp2_with fail
  refine (put_t h8'.out fD).mono ?_
  rintro e w9 ⟨rfl, h9⟩
  rw [show putL (putL (putL (putL [] fA) fB) fC) fD = [fA, fB] by simp [putL, fA, fB, fC, fD, emp_a, emp_b, emp_0]] at h9
  have h9' := hid h9
  clear h9
  rw [show putE (putL (putL (putL [] fA) fB) fC) fD = 2 by decide +kernel]
  clear h1' h2' h3' h4' h5' h6' h7' h8'
  go_wp2_with fail
  refine (len_t h9'.out).mono ?_
  rintro e w10 ⟨rfl, rfl⟩
  rw [show (([fA, fB].length : Nat) : Int) = 2 from rfl]
  go_wp2_with fail
  refine (twice_t h9'.out 0 (by decide) (by decide)).mono ?_
  rintro e w10 ⟨rfl, h⟩
  rw [show twE [fA, fB] 0 = 0 by decide +kernel]
  rw [show twL [fA, fB] 0 = [fA, fB, fA] by simp [twL, inb, atF, putL, fA, emp_a]] at h
  have h10 := hid h
  clear h h9'
  go_wp2_with fail
  refine (at_t h10.out 2 (by decide) (by decide)).mono ?_
  rintro e w11 ⟨rfl, h⟩
  rw [show atE [fA, fB, fA] 2 = 0 by decide +kernel, show atF [fA, fB, fA] 2 = fA from rfl]
  have h11 := hid (h.box #[.int .i64 fA.dst, .string fA.s] 30).swap
  clear h h10
  go_wp2_with fail
  refine (take_t h11.out 0 (by decide) (by decide) (by decide)).mono ?_
  rintro e w12 ⟨rfl, h⟩
  rw [show atE [fA, fB, fA] 0 = 0 by decide +kernel, show atF [fA, fB, fA] 0 = fA from rfl]
  have h12 := hid (h.box #[.int .i64 fA.dst, .string fA.s] 30).swap
  clear h h11
  go_wp2_with fail
  refine (drop_t h12.out 0 (by decide) (by decide) (by decide)).mono ?_
  rintro e w13 ⟨rfl, h⟩
  rw [show atE (dropF [fA, fB, fA] 0) 0 = 0 by decide +kernel]
  have h13 := hid h
  clear h h12
  go_wp2_with fail
  refine (len_t h13.out).mono ?_
  rintro e w14 ⟨rfl, rfl⟩
  rw [show ((dropF (dropF [fA, fB, fA] 0) 0).length : Int) = 1 by decide +kernel]
  go_wp2_with fail
  refine (take_t h13.out 0 (by decide) (by decide) (by decide)).mono ?_
  rintro e w14 ⟨rfl, h⟩
  rw [show atE (dropF (dropF [fA, fB, fA] 0) 0) 0 = 0 by decide +kernel, show atF (dropF (dropF [fA, fB, fA] 0) 0) 0 = fA from rfl]
  have h14 := hid (h.box #[.int .i64 fA.dst, .string fA.s] 30).swap
  clear h h13
  go_wp2_with fail
  refine (take_t h14.out 0 (by decide) (by decide) (by decide)).mono ?_
  rintro e w15 ⟨rfl, h⟩
  rw [show atE (dropF (dropF (dropF [fA, fB, fA] 0) 0) 0) 0 = 5 by decide +kernel, show atF (dropF (dropF (dropF [fA, fB, fA] 0) 0) 0) 0 = ⟨0, ⟨#[]⟩⟩ from rfl]
  have h15 := hid ((h.alloc (.cells #[.int .i64 0, .string ⟨#[]⟩] 30)).drop)
  clear h h14
  go_upto_region 10 with (fail)
  generalize w15.alloc (.cells #[.int .i64 0, .string ⟨#[]⟩] 30) = W at *
  have b1 := h15.out.get
  have b2 := h15.out.drop.get
  have b3 := h15.out.drop.drop.get
  have M := hid h15.out.m
  generalize w14.heap.size = p1 at *
  generalize w12.heap.size = p2 at *
  generalize w11.heap.size = p3 at *
  have hS : Hid (∀ X, Mod [] W X → (X.cell? ⟨p1, 0, none⟩ = some (.int .i64 0) ∧ X.cell? ⟨p1, 1, none⟩ = some (.string ⟨#[97]⟩)) ∧ (X.cell? ⟨p2, 0, none⟩ = some (.int .i64 0) ∧ X.cell? ⟨p2, 1, none⟩ = some (.string ⟨#[97]⟩)) ∧ (X.cell? ⟨p3, 0, none⟩ = some (.int .i64 0) ∧ X.cell? ⟨p3, 1, none⟩ = some (.string ⟨#[97]⟩))) := by
    intro X m
    have d1 := m.blk b1 (by simp)
    have d2 := m.blk b2 (by simp)
    have d3 := m.blk b3 (by simp)
    exact ⟨⟨d1.cell 0, d1.cell 1⟩, ⟨d2.cell 0, d2.cell 1⟩, ⟨d3.cell 0, d3.cell 1⟩⟩
  clear b1 b2 b3 h15
  go_region_held3 (fun X => Mod [] W X ∧ (X.cell? ⟨p1, 0, none⟩ = some (.int .i64 0) ∧ X.cell? ⟨p1, 1, none⟩ = some (.string ⟨#[97]⟩)) ∧ (X.cell? ⟨p2, 0, none⟩ = some (.int .i64 0) ∧ X.cell? ⟨p2, 1, none⟩ = some (.string ⟨#[97]⟩)) ∧ (X.cell? ⟨p3, 0, none⟩ = some (.int .i64 0) ∧ X.cell? ⟨p3, 1, none⟩ = some (.string ⟨#[97]⟩)))
    (first
      | exact ⟨(Mod.refl [] W).drew, hS.out _ (Mod.refl [] W).drew⟩
      | assumption
      | exact ⟨Mod.tr (And.left ‹Mod [] W _ ∧ _›) hm, hS.out _ (Mod.tr (And.left ‹Mod [] W _ ∧ _›) hm)⟩)
    (first | (go_at_call 20; refine (to_c _ 0 ⟨#[97]⟩).mono ?_; rintro e w1 ⟨rfl, hm⟩))
  go_wp2
  go_ret
  exact ⟨rfl, M.out.tr (And.left ‹Mod [] W _ ∧ _›)⟩

end Go.Proofs.Ytmcflfknaleljaa
