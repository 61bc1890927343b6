/- What a fence has: Seps. -/
import Derived.Test.YthofkkmnngmafaaFO
import Derived.Test.YthofkkmnngmafaaK9
namespace Go.Proofs.Ythofkkmnngmafaa
set_option linter.unusedVariables false
set_option linter.unusedSimpArgs false
set_option linter.unusedSectionVars false
open Go.RowKit

def segR (E : TypeId) (sz : Nat) (v : Value) (n : Nat) (xs : List Value) : Res := fun w L => Seg w E sz v n xs L
instance (E : TypeId) (sz : Nat) (v : Value) (n : Nat) (xs : List Value) : Keep (segR E sz v n xs) where
  lt := fun h k hk => Seg.lt h k hk
  mod := fun h hm hd => Seg.mod h hm hd
theorem ent_tail {l : List ByteArray} {b n cap : Nat} (hn : l.length = n + 1) (c' : Nat) (hc : n ≤ c') : Ent (rowR 9 1 (.slice (some ⟨b, 0, none⟩) (n + 1) cap) (n + 1) (flat stC l)) (segR 9 1 (.slice (some ⟨b, 1, none⟩) n c') n (flat stC (l.drop 1))) := by
  intro w L h
  have hs := Own.seg h
  rcases Nat.eq_zero_or_pos n with h0 | h0
  · subst h0
    have e : l.drop 1 = [] := List.eq_nil_of_length_eq_zero (by simp [hn])
    rw [e]
    exact ⟨[], Seg.empty _ _ _ _ _ _, by simp⟩
  · have k := hs.drop 1 (by omega) c' (by omega)
    have e := flat_drop st_lays l 1
    rw [← e] at k
    exact ⟨L, k, fun _ h => h⟩
theorem ent_feR (fb : Nat) (f : Fc) (c : Ch) (U : Res) : Ent (star (trR f.d f.t c) (star (boxR fb #[chV c, .int .i64 (f.lv.length : Nat)] 62) U)) (star (feR fb f) U) := (ent_swap _ _ _).trans ((ent_assoc2 _ _ _).trans (Ent.left (fun w L h => ⟨L, ⟨c, h⟩, fun _ h => h⟩) U))
theorem ent_tail0 {l : List ByteArray} {b n cap : Nat} (hn : l.length = n + 1) (h0 : n = 0) (off c' : Nat) : Ent (rowR 9 1 (.slice (some ⟨b, 0, none⟩) (n + 1) cap) (n + 1) (flat stC l)) (segR 9 1 (.slice (some ⟨b, off, none⟩) n c') n (flat stC (l.drop 1))) := by
  intro w L h
  subst h0
  have e : l.drop 1 = [] := List.eq_nil_of_length_eq_zero (by simp [hn])
  rw [e]
  exact ⟨[], Seg.empty _ _ _ _ _ _, by simp⟩
/-- A fence whose root is known. -/
def feC (fb : Nat) (f : Fc) (c : Ch) : Res := star (boxR fb #[chV c, .int .i64 (f.lv.length : Nat)] 62) (trR f.d f.t c)
instance (fb : Nat) (f : Fc) (c : Ch) : Keep (feC fb f c) := inferInstanceAs (Keep (star _ _))
theorem ent_feC (fb : Nat) (f : Fc) (c : Ch) (U : Res) : Ent (star (feC fb f c) U) (star (feR fb f) U) := Ent.left (fun w L h => ⟨L, ⟨c, h⟩, fun _ h => h⟩) U
theorem ent_feC2 (fb : Nat) (f : Fc) (c : Ch) (U : Res) : Ent (star (trR f.d f.t c) (star (boxR fb #[chV c, .int .i64 (f.lv.length : Nat)] 62) U)) (star (feC fb f c) U) := (ent_swap _ _ _).trans (ent_assoc2 _ _ _)
theorem Hld.feC {w0 w : World} {L0 : List Nat} {fb : Nat} {f : Fc} {U : Res} (h : Hld w0 L0 (star (feR fb f) U) w) : ∃ c, Hld w0 L0 (star (feC fb f c) U) w := h.ex
set_option maxRecDepth 100000 in
set_option maxHeartbeats 1000000 in
theorem seps_cc (w0 : World) (L0 : List Nat) (w : World) (fb : Nat) (f : Fc) (c : Ch) (U : Res) [Keep U] (h : Hld w0 L0 (star (feC fb f c) U) w) (hg : Good f) (hl : f.lv.length ≤ 1000) :
    Calls Try.prog 10 #[.pointer (some ⟨fb, 0, none⟩)] w fun e w' => ∃ v, e = .returned v ∧ Hld w0 L0 (star (segR 9 1 v (f.lv.length - 1) (flat stC ((f.lv.map (·.1)).drop 1))) (star (feC fb f c) U)) w' := by
  have h := h.as1
  have b0 := h.get.cell 0
  have hbl := h.get.lt
  simp only [List.getElem?_toArray, List.getElem?_cons_zero] at b0
  have HB := hid (h.box #[.slice none 0 0] 23)
  have HC := hid ((HB.out.ent (Ent.left (ent_outS w.heap.size) _)).ent ((ent_swap _ _ _).under _))
  have HF := hid hg.fan
  have hp : 0 < f.lv.length := by have := (lv_count f.d f.t mt hg.fan).1; have : 0 < 2 ^ f.d := Nat.two_pow_pos _; unfold Fc.lv; omega
  obtain ⟨n, hn⟩ : ∃ n, f.lv.length = n + 1 := ⟨f.lv.length - 1, by omega⟩
  have Hn := hid hn
  clear h hg HB hp
  go_enter Try.func10, Try.ntmps10
  go_wp2_with fail
  refine (each_c _ _ (outS w.heap.size) 1000 _ enterS (seeS w.heap.size) f.d f.t c w0 L0 _ mt [] _ HC.out HF.out (by simpa using hl) (fun _ _ => trivial)).mono ?_
  rintro e w1 ⟨rfl, HR⟩
  obtain ⟨sv, HS⟩ := HR.ex
  have HS := HS.as1
  rw [List.nil_append, show (lv f.d f.t mt).length = n + 1 from hn] at HS
  have c0 := HS.get.cell 0
  have fc0 := HS.get.free 0
  have hcl := HS.get.lt
  simp only [List.getElem?_toArray, List.getElem?_cons_zero] at c0
  obtain ⟨L1, hk⟩ := HS.drop.res
  obtain ⟨ga, cap, rfl, hcap, hcap2, hg⟩ := Own.val hk
  obtain ⟨g, rfl, _⟩ := hg (by omega)
  have HS2 := hid HS
  have hn1 : (n : Int) + 1 ≤ 1000 := by omega
  have hc1 : (n : Int) + 1 ≤ (cap : Int) := by omega
  clear HR HS HC hk hg
  go_wp2
  · rename_i hc0
    have HD := (HS2.out.set 0 (.slice (some ⟨g, 0, none⟩) n 0)).drop
    have HE := HD.ent (Ent.left (ent_tail0 (l := f.lv.map (·.1)) (by simp [hn]) (by omega) 0 0) _)
    rw [← Hn.out] at HE
    have HG := HE.ent ((ent_feC2 fb f c U).under _)
    go_ret
    refine ⟨_, rfl, ?_⟩
    simpa [segR] using HG
  · rename_i hc0
    have HD := (HS2.out.set 0 (.slice (some ⟨g, 1, none⟩) n (cap - 1))).drop
    have HE := HD.ent (Ent.left (ent_tail (l := f.lv.map (·.1)) (by simp [hn]) (cap - 1) (by omega)) _)
    rw [← Hn.out] at HE
    have HG := HE.ent ((ent_feC2 fb f c U).under _)
    go_ret
    refine ⟨_, rfl, ?_⟩
    simpa [segR] using HG
theorem seps_c (w0 : World) (L0 : List Nat) (w : World) (fb : Nat) (f : Fc) (U : Res) [Keep U] (h : Hld w0 L0 (star (feR fb f) U) w) (hg : Good f) (hl : f.lv.length ≤ 1000) :
    Calls Try.prog 10 #[.pointer (some ⟨fb, 0, none⟩)] w fun e w' => ∃ v, e = .returned v ∧ Hld w0 L0 (star (segR 9 1 v (f.lv.length - 1) (flat stC ((f.lv.map (·.1)).drop 1))) (star (feR fb f) U)) w' := by
  obtain ⟨c, h⟩ := h.feC
  refine (seps_cc w0 L0 w fb f c U h hg hl).mono ?_
  rintro e w' ⟨v, rfl, h1⟩
  exact ⟨v, rfl, h1.ent ((ent_feC fb f c U).under _)⟩
end Go.Proofs.Ythofkkmnngmafaa
