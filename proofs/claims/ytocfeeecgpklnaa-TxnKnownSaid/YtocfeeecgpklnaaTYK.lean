/- A transaction that is none. -/
import Derived.Test.YtocfeeecgpklnaaTXW
namespace Go.Proofs.Ytocfeeecgpklnaa
set_option linter.unusedVariables false
set_option linter.unusedSimpArgs false
set_option linter.unusedSectionVars false
open Go.RowKit Go.Shelf

set_option maxRecDepth 100000 in
theorem n_state (w : World) : Calls Try.prog 14 #[.pointer none] w fun e w' => e = .returned (.int .i64 5) ∧ Mod [] w w' := by
  go_enter Try.func14, Try.ntmps14
  go_wp2
  go_ret
  exact ⟨rfl, Mod.refl _ _⟩
set_option maxRecDepth 100000 in
theorem n_ts (w : World) : Calls Try.prog 24 #[.pointer none] w fun e w' => e = .returned (.int .u64 0) ∧ Mod [] w w' := by
  go_enter Try.func24, Try.ntmps24
  go_wp2
  go_ret
  exact ⟨rfl, Mod.refl _ _⟩
set_option maxRecDepth 100000 in
theorem n_need (w : World) (n : Nat) : Calls Try.prog 26 #[.pointer none, .int .u64 n] w fun e w' => e = .returned (.int .u64 0) ∧ Mod [] w w' := by
  go_enter Try.func26, Try.ntmps26
  go_wp2
  go_ret
  exact ⟨rfl, Mod.refl _ _⟩
set_option maxRecDepth 100000 in
theorem n_log (w : World) (n : Nat) : Calls Try.prog 21 #[.pointer none, .int .u64 n] w fun e w' => e = .returned (.int .i64 1) ∧ Mod [] w w' := by
  go_enter Try.func21, Try.ntmps21
  go_wp2
  go_ret
  exact ⟨rfl, Mod.refl _ _⟩
set_option maxRecDepth 100000 in
theorem n_idle (w : World) (n : Nat) : Calls Try.prog 28 #[.pointer none, .int .u64 n] w fun e w' => e = .returned (.bool false) ∧ Mod [] w w' := by
  go_enter Try.func28, Try.ntmps28
  go_wp2
  go_ret
  exact ⟨rfl, Mod.refl _ _⟩
set_option maxRecDepth 100000 in
theorem n_ops (w : World) : Calls Try.prog 17 #[.pointer none] w fun e w' => e = .returned (.slice none 0 0) ∧ Mod [] w w' := by
  go_enter Try.func17, Try.ntmps17
  go_wp2
  go_ret
  exact ⟨rfl, Mod.refl _ _⟩
set_option maxRecDepth 100000 in
theorem n_wait (w : World) : Calls Try.prog 19 #[.pointer none] w fun e w' => e = .returned (.tuple #[]) ∧ Mod [] w w' := by
  go_enter Try.func19, Try.ntmps19
  go_wp2
  go_end0
  exact ⟨rfl, Mod.refl _ _⟩
set_option maxRecDepth 100000 in
theorem n_pending (w : World) : Calls Try.prog 18 #[.pointer none] w fun e w' => e = .returned (.tuple #[clV cl0, .bool false]) ∧ Mod [] w w' := by
  go_enter Try.func18, Try.ntmps18
  go_wp2_with fail
  try simp only [Exit.inBlock, Exit.then]
  refine bodyPost_ret (res_cl2 rfl _ _ w.heap.size cl0 rfl (Blk.new w (clC cl0) _)) rfl ?_
  exact ⟨rfl, (Mod.refl [] w).alloc _⟩
set_option maxRecDepth 100000 in
theorem n_answer (w : World) (o : Oc) (n : Nat) : Calls Try.prog 20 #[.pointer none, ocV o, .int .u64 n] w fun e w' => e = .returned (.tuple #[ocV oc0, .int .i64 1]) ∧ Mod [] w w' := by
  have HR := hid (Blk.new (w.alloc (.cells (ocC o) 54)) (ocC oc0) 54)
  have HMY := hid (((Mod.refl [] w).alloc (.cells (ocC o) 54)).alloc (.cells (ocC oc0) 54))
  rw [World.size_alloc] at HR
  go_enter Try.func20, Try.ntmps20
  go_wp2_with fail
  try simp only [Exit.inBlock, Exit.then]
  refine bodyPost_ret (res_oc2 rfl _ _ (w.heap.size + 1) oc0 rfl HR.out) rfl ?_
  exact ⟨rfl, HMY.out⟩
set_option maxRecDepth 100000 in
theorem n_live (w : World) : Calls Try.prog 38 #[.pointer none] w fun e w' => e = .returned (.int .i64 1) ∧ Mod [] w w' := by
  go_enter Try.func38, Try.ntmps38
  go_wp2
  go_ret
  exact ⟨rfl, Mod.refl _ _⟩
theorem ask_none (w : World) : AskE w (.func (.func 38) #[.pointer none] #[]) 1 :=
  ⟨_, _, _, rfl, enters_of Try.func38 (by kernel_rfl) rfl, fun W hW => n_live W⟩
theorem first_none (w : World) (g n : Nat) (vs : List Value) (hn : (Value.func (.func 38) #[.pointer none] #[] :: vs).length = n) (hn2 : n ≤ 100) (hb : Blk w g (Value.func (.func 38) #[.pointer none] #[] :: vs).toArray 73) :
    Calls Try.prog 37 #[.slice (some ⟨g, 0, none⟩) n n] w fun e w' => e = .returned (.int .i64 1) ∧ Mod [] w w' :=
  first_c w g n _ 1 0 hn hn2 (fun i v hv => by rw [hb.cell]; simpa using hv) (fun i v hi => absurd hi (by omega)) (Or.inr ⟨by rw [← hn]; simp, by decide, fun v hv => by simp at hv; subst hv; exact ask_none w⟩)
set_option maxRecDepth 100000 in
theorem n_end (w : World) (q : Int) : Calls Try.prog 22 #[.pointer none, .int .i64 q] w fun e w' => e = .returned (.tuple #[ocV oc0, .bool false]) ∧ Mod [] w w' := by
  have HR := hid (Blk.new w (ocC oc0) 54)
  have HMY := hid ((Mod.refl [] w).alloc (.cells (ocC oc0) 54))
  go_enter Try.func22, Try.ntmps22
  go_wp2_with fail
  refine (n_live _).mono ?_
  rintro e w1 ⟨rfl, hm1⟩
  have hR1 := hm1.blk HR.out (by simp)
  obtain ⟨⟨r0, r1, r2, r3, r4, r5⟩, g0, g1, g2, g3, g4, g5⟩ := hR1.oc
  have hrl := hR1.lt
  have HR1 := hid hR1
  have HM1 := hid hm1
  have HRz := hid HR1.out.oc0Set
  clear hR1 hm1 HR
  go_wp2_with fail
  try simp only [Exit.inBlock, Exit.then]
  refine bodyPost_ret (res_oc2 rfl _ _ w.heap.size oc0 rfl HRz.out) rfl ?_
  exact ⟨rfl, (HMY.out.tr HM1.out).trans (Mod.oc0Set w.heap.size) (m := []) (fun x hx _ => hx) (fun x hx hlt => by simp at hx; omega)⟩

set_option maxRecDepth 100000 in
theorem n_call (w : World) (c : Cl) (n : Nat) : Calls Try.prog 12 #[.pointer none, clV c, .int .u64 n] w fun e w' => e = .returned (.tuple #[.int .i64 0, .int .i64 1]) ∧ Mod [] w w' := by
  have HM := hid (((Mod.refl [] w).alloc (.cells #[.pointer none] 25)).alloc (.cells (clC c) 24))
  have HP := hid ((Blk.new w #[.pointer none] 25).alloc (.cells (clC c) 24))
  go_enter Try.func12, Try.ntmps12
  go_upto_region 5 with (fail)
  generalize (w.alloc (.cells #[.pointer none] 25)).alloc (.cells (clC c) 24) = W at *
  generalize hp : w.heap.size = p at *
  have p0 : W.cell? ⟨p, 0, none⟩ = some (.pointer none) := HP.out.cell 0
  have hpl := HP.out.lt
  clear hp
  go_wp2_with fail
  refine (first_none _ W.heap.size 5 [.func (.func 30) #[] #[.pointer (some ⟨p, 0, none⟩)], .func (.func 32) #[] #[.pointer (some ⟨p, 0, none⟩), .pointer (some ⟨p + 1, 0, none⟩)], .func (.func 34) #[] #[.pointer (some ⟨p + 1, 0, none⟩)], .func (.func 35) #[] #[.pointer (some ⟨p + 1, 0, none⟩), .pointer (some ⟨p, 0, none⟩)]] rfl (by omega) (Blk.new W _ _)).mono ?_
  rintro e w1 ⟨rfl, hm1⟩
  have HM1 := hid (HM.out.tr (((Mod.refl [] W).alloc _).tr hm1))
  clear hm1
  go_wp2
  go_ret2
  exact ⟨rfl, HM1.out⟩
set_option maxRecDepth 100000 in
theorem n_wrote (w : World) (r : Rc) : Calls Try.prog 16 #[.pointer none, rcV r] w fun e w' => e = .returned (.int .i64 1) ∧ Mod [] w w' := by
  have HM := hid (((Mod.refl [] w).alloc (.cells #[.pointer none] 25)).alloc (.cells (rcA r) 32))
  have HP := hid ((Blk.new w #[.pointer none] 25).alloc (.cells (rcA r) 32))
  go_enter Try.func16, Try.ntmps16
  go_upto_region 1 with (fail)
  generalize (w.alloc (.cells #[.pointer none] 25)).alloc (.cells (rcA r) 32) = W at *
  generalize hp : w.heap.size = p at *
  have p0 : W.cell? ⟨p, 0, none⟩ = some (.pointer none) := HP.out.cell 0
  have hpl := HP.out.lt
  clear hp
  go_wp2_with fail
  refine (first_none _ W.heap.size 3 [.func (.func 42) #[] #[.pointer (some ⟨p + 1, 0, none⟩)], .func (.func 44) #[] #[.pointer (some ⟨p, 0, none⟩), .pointer (some ⟨p + 1, 0, none⟩)]] rfl (by omega) (Blk.new W _ _)).mono ?_
  rintro e w1 ⟨rfl, hm1⟩
  have HM1 := hid (HM.out.tr (((Mod.refl [] W).alloc _).tr hm1))
  clear hm1
  go_wp2
  go_ret
  exact ⟨rfl, HM1.out⟩
end Go.Proofs.Ytocfeeecgpklnaa
