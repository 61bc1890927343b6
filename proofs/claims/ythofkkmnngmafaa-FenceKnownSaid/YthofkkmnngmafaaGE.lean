/- FenceKnown: the fences of its loops, by what leaves they have; fences that are none. -/
import Derived.Test.YthofkkmnngmafaaGB
namespace Go.Proofs.Ythofkkmnngmafaa
set_option linter.unusedVariables false
set_option linter.unusedSimpArgs false
set_option linter.unusedSectionVars false
open Go.RowKit

def keyK (k : Nat) : ByteArray := two (97 + k / 10) (48 + k % 10)
theorem u8_inj {x y : Nat} (hx : x < 256) (hy : y < 256) (h : UInt8.ofNat x = UInt8.ofNat y) : x = y := by
  have := congrArg UInt8.toNat h
  simpa [Nat.mod_eq_of_lt hx, Nat.mod_eq_of_lt hy] using this
theorem keyK_inj {j k : Nat} (hj : j < 59) (hk : k < 59) (h : keyK j = keyK k) : j = k := by
  have h1 : [UInt8.ofNat (97 + j / 10), UInt8.ofNat (48 + j % 10)] = [UInt8.ofNat (97 + k / 10), UInt8.ofNat (48 + k % 10)] := congrArg (fun b : ByteArray => b.data.toList) h
  simp only [List.cons.injEq, and_true] at h1
  have h2 := u8_inj (by omega) (by omega) h1.1
  have h3 := u8_inj (by omega) (by omega) h1.2
  omega
theorem keyK_ne (k : Nat) : keyK k ≠ mt := fun h => by
  have := congrArg ByteArray.size h
  exact absurd this (by show ¬ (2 = 0); omega)
/-- The leaf 1, and those that S says. -/
structure Up (f : Fc) (S : Nat → Prop) : Prop where
  ok : Fok f
  mem : ∀ x, x ∈ f.lv ↔ x = (mt, 1) ∨ ∃ j, S j ∧ x = (keyK j, 2 + j)
  le : ∀ j, S j → j < 59
theorem Up.start : Up (fe0 1) (fun _ => False) := ⟨Fok.one (by decide) (by decide), fun x => by show x ∈ [(mt, 1)] ↔ _; simp, fun _ h => h.elim⟩
theorem sepsL_mem {l : List Lf} (h : OkL l) {s : ByteArray} (hs : s ∈ sepsL l) : s ≠ mt ∧ ∃ p, (s, p) ∈ l := by
  obtain ⟨p, r, rfl⟩ := h.head
  obtain ⟨x, hx, rfl⟩ := List.mem_map.1 (show s ∈ r.map (·.1) from hs)
  exact ⟨h.rest x hx, x.2, by simp [hx]⟩
theorem mem_sepsL {l : List Lf} (h : OkL l) {s : ByteArray} {p : Nat} (h0 : s ≠ mt) (hs : (s, p) ∈ l) : s ∈ sepsL l := by
  obtain ⟨q, r, rfl⟩ := h.head
  rcases List.mem_cons.1 hs with e | hs
  · cases e; exact absurd rfl h0
  · exact show s ∈ r.map (·.1) from List.mem_map.2 ⟨_, hs, rfl⟩
theorem Up.ins {f : Fc} {S : Nat → Prop} (h : Up f S) {k : Nat} (hk : k < 59) (hS : ¬ S k) (hl : f.lv.length < 60) :
    insAnsL f.lv (keyK k) (2 + k) = 0 ∧ Up (insFF f (keyK k) (2 + k)) (fun j => S j ∨ j = k) ∧ (insFF f (keyK k) (2 + k)).lv.length = f.lv.length + 1 := by
  have ha : insAnsL f.lv (keyK k) (2 + k) = 0 := by
    refine insAnsL_zero.2 ⟨keyK_ne k, by show 2 ≤ 16; omega, fun hm => ?_, by omega, fun hm => ?_, hl⟩
    · obtain ⟨h0, p, hp⟩ := sepsL_mem h.ok.ok hm
      rcases (h.mem _).1 hp with e | ⟨j, hj, e⟩
      · exact h0 (congrArg Prod.fst e)
      · have := keyK_inj hk (h.le j hj) (congrArg Prod.fst e)
        exact hS (this ▸ hj)
    · obtain ⟨x, hx, e⟩ := List.mem_map.1 hm
      rcases (h.mem _).1 hx with rfl | ⟨j, hj, rfl⟩
      · have e' : (1 : Nat) = 2 + k := e
        omega
      · have e' : 2 + j = 2 + k := e
        have : j = k := by omega
        exact hS (this ▸ hj)
  have hn := h.ok.ok.new (insAnsL_zero.1 ha).1 (insAnsL_zero.1 ha).2.2.1
  have hpm := putL_perm (pid := 2 + k) hn
  have el : (insFF f (keyK k) (2 + k)).lv = putL f.lv (keyK k) (2 + k) := by
    rw [h.ok.ins_lv]
    unfold insLL
    rw [if_pos ha]
  refine ⟨ha, ⟨h.ok.ins _ (by omega), fun x => ?_, fun j hj => ?_⟩, by rw [el, hpm.length_eq, List.length_cons]⟩
  · rw [el, hpm.mem_iff, List.mem_cons, h.mem]
    constructor
    · rintro (rfl | rfl | ⟨j, hj, rfl⟩)
      · exact Or.inr ⟨k, Or.inr rfl, rfl⟩
      · exact Or.inl rfl
      · exact Or.inr ⟨j, Or.inl hj, rfl⟩
    · rintro (rfl | ⟨j, hj | rfl, rfl⟩)
      · exact Or.inr (Or.inl rfl)
      · exact Or.inr (Or.inr ⟨j, hj, rfl⟩)
      · exact Or.inl rfl
  · rcases hj with hj | rfl
    · exact h.le j hj
    · exact hk
theorem Up.rem {f : Fc} {S : Nat → Prop} (h : Up f S) {k : Nat} (hS : S k) :
    remAnsL f.lv (keyK k) = 0 ∧ Up (remFF f (keyK k)) (fun j => S j ∧ j ≠ k) := by
  have hm : keyK k ∈ sepsL f.lv := mem_sepsL h.ok.ok (keyK_ne k) ((h.mem _).2 (Or.inr ⟨k, hS, rfl⟩))
  refine ⟨if_pos hm, h.ok.rem _, fun x => ?_, fun j hj => h.le j hj.1⟩
  rw [h.ok.rem_lv]
  unfold remLL
  rw [if_pos hm]
  unfold without
  rw [List.mem_filter, h.mem]
  constructor
  · rintro ⟨rfl | ⟨j, hj, rfl⟩, hx⟩
    · exact Or.inl rfl
    · refine Or.inr ⟨j, ⟨hj, fun e => ?_⟩, rfl⟩
      subst e
      simp at hx
  · rintro (rfl | ⟨j, ⟨hj, hjk⟩, rfl⟩)
    · exact ⟨Or.inl rfl, by simpa using fun e => keyK_ne k e.symm⟩
    · exact ⟨Or.inr ⟨j, hj, rfl⟩, by simpa using fun e => hjk (keyK_inj (h.le j hj) (h.le k hS) e)⟩
theorem Up.congr {f : Fc} {S T : Nat → Prop} (h : Up f S) (hST : ∀ j, S j ↔ T j) : Up f T :=
  ⟨h.ok, fun x => by rw [h.mem]; simp only [hST], fun j hj => h.le j ((hST j).2 hj)⟩
theorem find_mem {l : List Lf} (hok : OkL l) {b k : ByteArray} {p : Nat} (hm : (b, p) ∈ l) (h1 : ¬ SL k b) (h2 : ∀ x ∈ l, SL b x.1 → SL k x.1) : findL l k = p := by
  obtain ⟨A, B, rfl⟩ := List.append_of_mem hm
  have hs := List.pairwise_append.1 hok.srt
  exact findL_cut h1 fun x hx => h2 x (by simp [hx]) ((List.pairwise_cons.1 hs.2.1).1 x hx)
theorem Up.none {f : Fc} {S : Nat → Prop} (h : Up f S) (hS : ∀ j, ¬ S j) : f.lv = [(mt, 1)] := by
  obtain ⟨p, r, e⟩ := h.ok.ok.head
  have h1 := (h.mem (mt, p)).1 (by rw [e]; simp)
  rcases h1 with h1 | ⟨j, hj, _⟩
  · cases h1
    cases r with
    | nil => exact e
    | cons x r =>
      have h2 := (h.mem x).1 (by rw [e]; simp)
      rcases h2 with rfl | ⟨j, hj, _⟩
      · have := h.ok.ok
        rw [e] at this
        exact absurd rfl (this.rest (mt, 1) (by simp))
      · exact absurd hj (hS j)
  · exact absurd hj (hS j)

/-- All fifty-nine. -/
theorem Up.full {f : Fc} (h : Up f (fun j => j < 59)) (hl : f.lv.length = 60) :
    insAnsL f.lv ⟨#[122]⟩ 99 = 11 ∧ 3 ≤ f.d ∧ f.d ≤ 5 ∧ findL f.lv ⟨#[99, 53]⟩ = 27 ∧ findL f.lv ⟨#[99, 53, 120]⟩ = 27 ∧ findL f.lv ⟨#[122, 122]⟩ = 60 ∧ findL f.lv mt = 1 := by
  have hd := h.ok.count
  rw [List.length_map, hl] at hd
  have hd1 : 3 ≤ f.d := by
    rcases Nat.lt_or_ge f.d 3 with k | k
    · have := Nat.pow_le_pow_right (show 0 < 5 by decide) (show f.d ≤ 2 by omega)
      have e : (5 : Nat) ^ 2 = 25 := by decide
      omega
    · exact k
  have hd2 : f.d ≤ 5 := by
    rcases Nat.lt_or_ge 5 f.d with k | k
    · have := Nat.pow_le_pow_right (show 0 < 2 by decide) (show 6 ≤ f.d by omega)
      have e : (2 : Nat) ^ 6 = 64 := by decide
      omega
    · exact k
  have k25 : (keyK 25, 27) ∈ f.lv := (h.mem _).2 (Or.inr ⟨25, by decide, rfl⟩)
  have k58 : (keyK 58, 60) ∈ f.lv := (h.mem _).2 (Or.inr ⟨58, by decide, rfl⟩)
  have k0 : (mt, 1) ∈ f.lv := (h.mem _).2 (Or.inl rfl)
  have c1 : ∀ j, j < 59 → SL (keyK 25) (keyK j) → SL ⟨#[99, 53, 120]⟩ (keyK j) := by decide +kernel
  have c2 : ∀ j, j < 59 → SL (keyK 58) (keyK j) → SL ⟨#[122, 122]⟩ (keyK j) := by decide +kernel
  refine ⟨?_, hd1, hd2, ?_, ?_, ?_, ?_⟩
  · unfold insAnsL
    rw [if_neg, if_pos (by omega)]
    unfold insBadL
    simp only [Bool.or_eq_true, decide_eq_true_eq, not_or]
    refine ⟨⟨⟨⟨by decide +kernel, by decide⟩, fun hm => ?_⟩, by decide⟩, fun hm => ?_⟩
    · obtain ⟨_, p, hp⟩ := sepsL_mem h.ok.ok hm
      rcases (h.mem _).1 hp with e | ⟨j, hj, e⟩
      · have := congrArg (fun x : Lf => x.1.size) e
        exact absurd this (by show ¬ (1 = 0); omega)
      · have := congrArg (fun x : Lf => x.1.size) e
        exact absurd this (by show ¬ (1 = 2); omega)
    · obtain ⟨x, hx, e⟩ := List.mem_map.1 hm
      rcases (h.mem _).1 hx with rfl | ⟨j, hj, rfl⟩
      · cases e
      · have e' : 2 + j = 99 := e
        omega
  · exact find_mem h.ok.ok k25 (SL_irrefl (keyK 25)) fun x _ hx => hx
  · refine find_mem h.ok.ok k25 (by decide +kernel) fun x hx hs => ?_
    rcases (h.mem _).1 hx with rfl | ⟨j, hj, rfl⟩
    · exact absurd hs (SL_mt _)
    · exact c1 j hj hs
  · refine find_mem h.ok.ok k58 (by decide +kernel) fun x hx hs => ?_
    rcases (h.mem _).1 hx with rfl | ⟨j, hj, rfl⟩
    · exact absurd hs (SL_mt _)
    · exact c2 j hj hs
  · exact find_mem h.ok.ok k0 (SL_irrefl mt) fun x _ hx => hx
theorem Up.empty {f : Fc} {S : Nat → Prop} (h : Up f S) (hS : ∀ j, ¬ S j) : f.d = 0 ∧ findL f.lv ⟨#[122, 122]⟩ = 1 ∧ imgB f.lv = ⟨#[1, 1]⟩ := by
  have e := h.none hS
  refine ⟨?_, by rw [e]; rfl, ?_⟩
  · have := h.ok.count.2.2
    rw [e] at this
    exact this.2 rfl
  · rw [e]
    show imgA 1 [(mt, 1)] = _
    rw [imgA_tail _ _ _ (by simp)]
    unfold tailB numB
    rw [List.foldr_nil, Wire.digits_lt (n := 1) (by decide)]
    decide +kernel
/-- Sevenfold, by fifty-nine: each once. -/
theorem seven : (∀ i, i < 59 → i * 7 % 59 < 59) ∧ (∀ j, j < 59 → ∃ i, i < 59 ∧ j = i * 7 % 59) := by
  refine ⟨fun i _ => Nat.mod_lt _ (by decide), fun j hj => ⟨j * 17 % 59, Nat.mod_lt _ (by decide), ?_⟩⟩
  omega
theorem seven_inj {i i' : Nat} (hi : i < 59) (hi' : i' < 59) (h : i * 7 % 59 = i' * 7 % 59) : i = i' := by omega

/-- What is no fence's bytes. -/
def noneL : List ByteArray := [⟨#[]⟩, ⟨#[0]⟩, ⟨#[1, 0]⟩, ⟨#[2, 1]⟩, ⟨#[1, 1, 0]⟩, ⟨#[2, 1, 0, 2]⟩, ⟨#[2, 1, 1, 97, 1]⟩, ⟨#[3, 1, 1, 98, 2, 1, 97, 3]⟩, ⟨#[3, 1, 1, 97, 2, 1, 97, 3]⟩, ⟨#[2, 1, 1, 97, 0]⟩, ⟨#[61, 1]⟩]
theorem noneL_said : ∀ s ∈ noneL, (parseL s).isNone = true := by decide +kernel

section
variable (w : World) (s : ByteArray) (n : Nat)
theorem findN : Calls Try.prog 15 #[.pointer none, .string s] w fun e w' => e = .returned (.int .u64 0) ∧ w = w' := by
  go_enter Try.func15, Try.ntmps15
  go_wp2
  go_ret
  exact ⟨rfl, rfl⟩
theorem insN : Calls Try.prog 12 #[.pointer none, .string s, .int .u64 n] w fun e w' => e = .returned (.int .i64 1) ∧ w = w' := by
  go_enter Try.func12, Try.ntmps12
  go_wp2
  go_ret
  exact ⟨rfl, rfl⟩
theorem remN : Calls Try.prog 11 #[.pointer none, .string s] w fun e w' => e = .returned (.int .i64 1) ∧ w = w' := by
  go_enter Try.func11, Try.ntmps11
  go_wp2
  go_ret
  exact ⟨rfl, rfl⟩
theorem sepsN : Calls Try.prog 10 #[.pointer none] w fun e w' => e = .returned (.slice none 0 0) ∧ Mod [] w w' := by
  go_enter Try.func10, Try.ntmps10
  go_wp2
  go_ret
  exact ⟨rfl, (Mod.refl [] w).alloc _⟩
theorem pidsN : Calls Try.prog 13 #[.pointer none] w fun e w' => e = .returned (.slice none 0 0) ∧ Mod [] w w' := by
  go_enter Try.func13, Try.ntmps13
  go_wp2
  go_ret
  exact ⟨rfl, (Mod.refl [] w).alloc _⟩
theorem depthN : Calls Try.prog 14 #[.pointer none] w fun e w' => e = .returned (.int .i64 0) ∧ w = w' := by
  go_enter Try.func14, Try.ntmps14
  go_wp2
  go_ret
  exact ⟨rfl, rfl⟩
theorem copyN : Calls Try.prog 25 #[.pointer none] w fun e w' => e = .returned (.pointer none) ∧ w = w' := by
  go_enter Try.func25, Try.ntmps25
  go_wp2
  go_ret
  exact ⟨rfl, rfl⟩
theorem imageN : Calls Try.prog 21 #[.pointer none] w fun e w' => e = .returned (.string ⟨#[]⟩) ∧ w = w' := by
  go_enter Try.func21, Try.ntmps21
  go_wp2
  go_ret
  exact ⟨rfl, rfl⟩
end
end Go.Proofs.Ythofkkmnngmafaa
