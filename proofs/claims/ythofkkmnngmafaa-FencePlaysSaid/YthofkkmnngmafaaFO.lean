/- What a fence has: Pids. -/
import Derived.Test.YthofkkmnngmafaaFN
import Derived.Test.YthofkkmnngmafaaFK
namespace Go.Proofs.Ythofkkmnngmafaa
set_option linter.unusedVariables false
set_option linter.unusedSimpArgs false
set_option linter.unusedSectionVars false
open Go.RowKit

theorem ent_outI (x : Nat) : Ent (boxR x #[.slice none 0 0] 33) (outI x []) := fun w L h => ⟨L ++ [], ⟨_, L, [], h, ⟨rfl, Or.inl ⟨rfl, rfl, rfl⟩⟩, rfl, by simp⟩, by simp⟩
theorem ent_outS (x : Nat) : Ent (boxR x #[.slice none 0 0] 23) (outS x []) := fun w L h => ⟨L ++ [], ⟨_, L, [], h, ⟨rfl, Or.inl ⟨rfl, rfl, rfl⟩⟩, rfl, by simp⟩, by simp⟩
theorem enterI (args : Array Value) (w : World) : (callFunc 34 args).run Try.prog w = .ok (.enter 34 args) w := by rfl
theorem enterS (args : Array Value) (w : World) : (callFunc 29 args).run Try.prog w = .ok (.enter 29 args) w := by rfl
set_option maxRecDepth 100000 in
set_option maxHeartbeats 1000000 in
theorem pids_c (w0 : World) (L0 : List Nat) (w : World) (fb : Nat) (f : Fc) (U : Res) [Keep U] (h : Hld w0 L0 (star (feR fb f) U) w) (hg : Good f) (hl : f.lv.length ≤ 1000) :
    Calls Try.prog 13 #[.pointer (some ⟨fb, 0, none⟩)] w fun e w' => ∃ v, e = .returned v ∧ Hld w0 L0 (star (rowR 26 1 v f.lv.length (flat idC (f.lv.map (·.2)))) (star (feR fb f) U)) w' := by
  obtain ⟨c, h⟩ := h.ex
  have h := h.as1
  have b0 := h.get.cell 0
  have hbl := h.get.lt
  simp only [List.getElem?_toArray, List.getElem?_cons_zero] at b0
  have HB := hid (h.box #[.slice none 0 0] 33)
  have HC := hid ((HB.out.ent (Ent.left (ent_outI w.heap.size) _)).ent ((ent_swap _ _ _).under _))
  have HF := hid hg.fan
  clear h hg HB
  go_enter Try.func13, Try.ntmps13
  go_wp2_with fail
  refine (each_c _ _ (outI w.heap.size) 1000 _ enterI (seeI w.heap.size) f.d f.t c w0 L0 _ mt [] _ HC.out HF.out (by simpa using hl) (fun _ _ => trivial)).mono ?_
  rintro e w1 ⟨rfl, HR⟩
  obtain ⟨sv, HS⟩ := HR.ex
  have HS := HS.as1
  have c0 := HS.get.cell 0
  have hcl := HS.get.lt
  simp only [List.getElem?_toArray, List.getElem?_cons_zero] at c0
  have HS2 := hid HS.drop
  clear HR HS HC
  go_wp2
  go_ret
  exact ⟨_, rfl, HS2.out.ent ((((ent_swap _ _ _).trans ((ent_assoc2 _ _ _).trans (Ent.left (fun w L h => ⟨L, ⟨c, h⟩, fun _ h => h⟩) U)))).under _)⟩
end Go.Proofs.Ythofkkmnngmafaa
