/- A bag that is none. -/
import Derived.Test.YtmcflfknaleljaaO1
namespace Go.Proofs.Ytmcflfknaleljaa
set_option linter.unusedVariables false
set_option linter.unusedSimpArgs false
open Go.RowKit

set_option maxRecDepth 100000 in
theorem put_nil (w : World) (d : Int) (s : ByteArray) : Calls Try.prog 14 #[.pointer none, .agg #[.int .i64 d, .string s]] w fun e w' => e = .returned (.int .i64 1) ∧ Mod [] w w' := by
  have H := hid ((Mod.refl [] w).alloc (.cells #[.int .i64 d, .string s] 30))
  go_enter Try.func14, Try.ntmps14
  go_wp2
  go_ret
  exact ⟨rfl, H.out⟩
set_option maxRecDepth 100000 in
theorem len_nil (w : World) : Calls Try.prog 18 #[.pointer none] w fun e w' => e = .returned (.int .i64 0) ∧ Mod [] w w' := by
  go_enter Try.func18, Try.ntmps18
  go_wp2
  go_ret
  exact ⟨rfl, Mod.refl _ _⟩
set_option maxRecDepth 100000 in
theorem twice_nil (w : World) (i : Int) : Calls Try.prog 10 #[.pointer none, .int .i64 i] w fun e w' => e = .returned (.int .i64 1) ∧ Mod [] w w' := by
  go_enter Try.func10, Try.ntmps10
  go_wp2
  go_ret
  exact ⟨rfl, Mod.refl _ _⟩
set_option maxRecDepth 100000 in
theorem drop_nil (w : World) (i : Int) : Calls Try.prog 12 #[.pointer none, .int .i64 i] w fun e w' => e = .returned (.int .i64 1) ∧ Mod [] w w' := by
  have H := hid (((Mod.refl [] w).alloc (.cells #[.pointer none] 23)).alloc (.cells #[.int .i64 i] 3))
  go_enter Try.func12, Try.ntmps12
  go_wp2
  go_ret
  exact ⟨rfl, H.out⟩
set_option maxRecDepth 100000 in
theorem at_nil (w : World) (i : Int) : Calls Try.prog 16 #[.pointer none, .int .i64 i] w fun e w' => e = .returned (.tuple #[.agg #[.int .i64 0, .string ⟨#[]⟩], .int .i64 1]) ∧ Mod [] w w' := by
  have H := hid ((Mod.refl [] w).alloc (.cells #[.int .i64 0, .string ⟨#[]⟩] 30))
  go_enter Try.func16, Try.ntmps16
  go_wp2
  go_returns
  exact ⟨rfl, H.out⟩
set_option maxRecDepth 100000 in
theorem take_nil (w : World) (i : Int) : Calls Try.prog 8 #[.pointer none, .int .i64 i] w fun e w' => e = .returned (.tuple #[.agg #[.int .i64 0, .string ⟨#[]⟩], .int .i64 1]) ∧ Mod [] w w' := by
  go_enter Try.func8, Try.ntmps8
  go_wp2_with fail
  refine (at_nil _ i).mono ?_
  rintro e w1 ⟨rfl, hm⟩
  have q0 := hm.blk (Blk.new w #[.int .i64 0, .string ⟨#[]⟩] 30) (by simp)
  have c0 := q0.cell 0
  have c1 := q0.cell 1
  have f0 := q0.free 0
  have f1 := q0.free 1
  have hl1 := q0.lt
  have s0 := (q0.alloc (.cells #[.int .i64 0, .string ⟨#[]⟩] 30)).setSame 0 (.int .i64 0) rfl
  have s1 := (q0.alloc (.cells #[.int .i64 0, .string ⟨#[]⟩] 30)).setSame 1 (.string ⟨#[]⟩) rfl
  have a0 := (q0.alloc (.cells #[.int .i64 0, .string ⟨#[]⟩] 30)).cell 0
  have a1 := (q0.alloc (.cells #[.int .i64 0, .string ⟨#[]⟩] 30)).cell 1
  have s2 := q0.setSame 0 (.int .i64 0) rfl
  have s3 := q0.setSame 1 (.string ⟨#[]⟩) rfl
  have H := hid ((((Mod.refl [] w).alloc (.cells #[.int .i64 0, .string ⟨#[]⟩] 30)).tr hm).alloc (.cells #[.int .i64 0, .string ⟨#[]⟩] 30))
  simp at c0 c1
  simp only [List.getElem?_toArray, List.getElem?_cons_zero, List.getElem?_cons_succ] at a0 a1
  clear hm q0
  go_wp2
  exact bodyPost_ret (v := .tuple #[.agg #[.int .i64 0, .string ⟨#[]⟩], .int .i64 1]) (by simp [results, Try.results8, go_sem, a0, a1]) rfl ⟨rfl, H.out⟩

end Go.Proofs.Ytmcflfknaleljaa
