/- What a fence has: the walks of Seps, Pids. -/
import Derived.Test.YthofkkmnngmafaaFM
namespace Go.Proofs.Ythofkkmnngmafaa
set_option linter.unusedVariables false
set_option linter.unusedSimpArgs false
set_option linter.unusedSectionVars false
open Go.RowKit

def idC (p : Nat) : List Value := [.int .u64 p]
theorem id_lays : Lays 1 idC := ⟨fun _ => rfl, fun s u hu => by
  simp [idC] at hu; subst hu
  rfl, by decide⟩
theorem uin_el : (Try.prog.info? 26).map (fun i => (i.zero, i.size, i.bytes)) = some (some (.int .u64 0), 1, 8) := by kernel_rfl
theorem one_of {X : Type} {f : X → List Value} {w : World} {g : Nat} {v : Value} {x : X} {T : TypeId} (hf : f x = [v]) (h : Blk w g #[v] T) : Lx 1 f w (.slice (some ⟨g, 0, none⟩) 1 1) [x] := by
  refine ⟨_, 1, rfl, Or.inr ⟨g, 0, rfl, fun i y hy j v' hj => ?_⟩, by simp⟩
  cases i with
  | zero =>
    simp at hy; subst hy
    rw [show 0 + 0 * 1 + j = j by omega, h.cell, ← hj, hf]
    simp
  | succ i => simp at hy
/-- What a closure has gathered: separators; pids. -/
def outS (x : Nat) (acc : List Lf) : Res := fun w L => ∃ sv, star (boxR x #[sv] 23) (rowR 9 1 sv acc.length (flat stC (acc.map (·.1)))) w L
def outI (x : Nat) (acc : List Lf) : Res := fun w L => ∃ sv, star (boxR x #[sv] 33) (rowR 26 1 sv acc.length (flat idC (acc.map (·.2)))) w L

set_option maxRecDepth 100000 in
set_option maxHeartbeats 1000000 in
theorem seeS (x : Nat) : SeeOk 29 #[.pointer (some ⟨x, 0, none⟩)] (outS x) 1000 (fun _ => True) := by
  intro acc s p W L hN _ h
  have HH := (Hld.start h).ent ((ent_emp2 _))
  obtain ⟨sv, HS⟩ := HH.ex
  have HS := HS.as1
  have b0 := HS.get.cell 0
  have hbl := HS.get.lt
  simp only [List.getElem?_toArray, List.getElem?_cons_zero] at b0
  have HB := hid (Blk.new W #[.string s] 9)
  have HS2 := hid (HS.mod ((Mod.refl [] W).alloc (.cells #[.string s] 9)))
  obtain ⟨Ls, hs, upd⟩ := (HS2.out.swap).first
  have Hs := hid hs
  have Hupd := hid upd
  have Hone := hid (one_of (f := stC) (x := s) rfl HB.out)
  have hl1 : acc.length + 1 ≤ 1000 := by omega
  have hml : (acc.map (·.1)).length = acc.length := by simp
  clear h HH HS hs upd
  go_enter Try.func29, Try.ntmps29
  go_wp2_with (at_builtin; refine wpList_append_lx st_lays rfl (.tmp 5) (.tmp 7) 23 9 rfl Try.underlying23 sin_el rfl rfl Hs.out rfl Hone.out (by simp; omega) (by simp; omega) ?_; intro v1 w1 L1 h1 h2 h3; have HN1 := hid ((Hupd.out (rowR 9 1 v1 _ _) w1 L1 h1.out h2.out h3.out).swap); have hB1 := HN1.out.get; have b1 := hB1.cell 0; have fb1 := hB1.free 0; have hbl1 := hB1.lt; simp only [List.getElem?_toArray, List.getElem?_cons_zero] at b1; clear hB1; obtain ⟨e1, e2, rfl, _, _, _⟩ := Own.val h1.out)
  refine bodyPost_end (results_none rfl _ _ _) rfl ⟨_, rfl, ?_⟩
  have hF := HN1.out.set 0 (.slice e1 (acc.length + [s].length) e2)
  simp only [List.setIfInBounds_toArray, List.set_cons_zero] at hF
  have q1 : flat stC (acc.map (·.1)) ++ flat stC [s] = flat stC ((acc ++ [(s, p)]).map (·.1)) := by simp [flat]
  have q2 : acc.length + [s].length = (acc ++ [(s, p)]).length := by simp
  have q3 : acc.length + 1 = (acc ++ [(s, p)]).length := by simp
  rw [q1, q2] at hF
  rw [q3]
  exact Hld.also rfl (Hld.some (.slice e1 (acc ++ [(s, p)]).length e2) (hF.as2.ent (ent_emp1 _)))

set_option maxRecDepth 100000 in
set_option maxHeartbeats 1000000 in
theorem seeI (x : Nat) : SeeOk 34 #[.pointer (some ⟨x, 0, none⟩)] (outI x) 1000 (fun _ => True) := by
  intro acc s p W L hN _ h
  have HH := (Hld.start h).ent ((ent_emp2 _))
  obtain ⟨sv, HS⟩ := HH.ex
  have HS := HS.as1
  have b0 := HS.get.cell 0
  have hbl := HS.get.lt
  simp only [List.getElem?_toArray, List.getElem?_cons_zero] at b0
  have HB := hid (Blk.new W #[.int .u64 p] 26)
  have HS2 := hid (HS.mod ((Mod.refl [] W).alloc (.cells #[.int .u64 p] 26)))
  obtain ⟨Ls, hs, upd⟩ := (HS2.out.swap).first
  have Hs := hid hs
  have Hupd := hid upd
  have Hone := hid (one_of (f := idC) (x := p) rfl HB.out)
  have hl1 : acc.length + 1 ≤ 1000 := by omega
  have hml : (acc.map (·.2)).length = acc.length := by simp
  clear h HH HS hs upd
  go_enter Try.func34, Try.ntmps34
  go_wp2_with (at_builtin; refine wpList_append_lx id_lays rfl (.tmp 5) (.tmp 7) 33 26 rfl Try.underlying33 uin_el rfl rfl Hs.out rfl Hone.out (by simp; omega) (by simp; omega) ?_; intro v1 w1 L1 h1 h2 h3; have HN1 := hid ((Hupd.out (rowR 26 1 v1 _ _) w1 L1 h1.out h2.out h3.out).swap); have hB1 := HN1.out.get; have b1 := hB1.cell 0; have fb1 := hB1.free 0; have hbl1 := hB1.lt; simp only [List.getElem?_toArray, List.getElem?_cons_zero] at b1; clear hB1; obtain ⟨e1, e2, rfl, _, _, _⟩ := Own.val h1.out)
  refine bodyPost_end (results_none rfl _ _ _) rfl ⟨_, rfl, ?_⟩
  have hF := HN1.out.set 0 (.slice e1 (acc.length + [p].length) e2)
  simp only [List.setIfInBounds_toArray, List.set_cons_zero] at hF
  have q1 : flat idC (acc.map (·.2)) ++ flat idC [p] = flat idC ((acc ++ [(s, p)]).map (·.2)) := by simp [flat]
  have q2 : acc.length + [p].length = (acc ++ [(s, p)]).length := by simp
  have q3 : acc.length + 1 = (acc ++ [(s, p)]).length := by simp
  rw [q1, q2] at hF
  rw [q3]
  exact Hld.also rfl (Hld.some (.slice e1 (acc ++ [(s, p)]).length e2) (hF.as2.ent (ent_emp1 _)))
end Go.Proofs.Ythofkkmnngmafaa
