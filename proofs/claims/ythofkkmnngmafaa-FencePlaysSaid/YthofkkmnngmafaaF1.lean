/- Plain: a tree of leaves, level by level; what is put in and taken out; the list of its leaves. -/
import Derived.Test.YthofkkmnngmafaaSPA
namespace Go.Proofs.Ythofkkmnngmafaa
set_option linter.unusedVariables false
set_option linter.unusedSimpArgs false
set_option linter.unusedSectionVars false

instance (a b : ByteArray) : Decidable (SL a b) := inferInstanceAs (Decidable (a.data.toList < b.data.toList))

/-- A tree whose leaves lie d levels down: a pid; or children and separators. -/
@[reducible] def Tr : Nat → Type
  | 0 => Nat
  | d + 1 => List (Tr d) × List ByteArray

abbrev Lf := ByteArray × Nat

/-- The leaves, with where each begins. -/
def lv : (d : Nat) → Tr d → ByteArray → List Lf
  | 0, p, s => [(s, p)]
  | d + 1, t, s => (List.zip t.1 (s :: t.2)).flatMap fun x => lv d x.1 x.2
abbrev lvK (d : Nat) (ks : List (Tr d)) (bs : List ByteArray) : List Lf := (List.zip ks bs).flatMap fun x => lv d x.1 x.2
theorem lv_node (d : Nat) (t : Tr (d + 1)) (s : ByteArray) : lv (d + 1) t s = lvK d t.1 (s :: t.2) := rfl
theorem lvK_app {d : Nat} {A B : List (Tr d)} {SA SB : List ByteArray} (h : A.length = SA.length) : lvK d (A ++ B) (SA ++ SB) = lvK d A SA ++ lvK d B SB := by
  unfold lvK; rw [List.zip_append h, List.flatMap_append]
theorem lvK_cons {d : Nat} {c : Tr d} {B : List (Tr d)} {s : ByteArray} {SB : List ByteArray} : lvK d (c :: B) (s :: SB) = lv d c s ++ lvK d B SB := rfl

/-- How many children a node has. -/
def Fan : (d : Nat) → Tr d → Prop
  | 0, _ => True
  | d + 1, t => 2 ≤ t.1.length ∧ t.1.length ≤ 5 ∧ t.1.length = t.2.length + 1 ∧ ∀ x ∈ t.1, Fan d x
def Fan1 (d : Nat) (t : Tr (d + 1)) : Prop := 1 ≤ t.1.length ∧ t.1.length ≤ 5 ∧ t.1.length = t.2.length + 1 ∧ ∀ x ∈ t.1, Fan d x
theorem Fan.one {d : Nat} {t : Tr (d + 1)} (h : Fan (d + 1) t) : Fan1 d t := ⟨Nat.le_trans (by decide) h.1, h.2⟩

abbrev SrtL (l : List Lf) : Prop := l.Pairwise fun x y => SL x.1 y.1

/-- The place of a key's child: how many separators lie at or below it. -/
def atI (ss : List ByteArray) (k : ByteArray) : Nat := (ss.takeWhile fun s => !decide (SL k s)).length
theorem atI_le (ss : List ByteArray) (k : ByteArray) : atI ss k ≤ ss.length := by
  unfold atI
  exact (List.takeWhile_prefix _).length_le
theorem atI_lo {ss : List ByteArray} {k : ByteArray} {j : Nat} {s : ByteArray} (hj : j < atI ss k) (hs : ss[j]? = some s) : ¬ SL k s := by
  induction ss generalizing j with
  | nil => simp at hs
  | cons x l ih =>
    unfold atI at hj
    rw [List.takeWhile_cons] at hj
    split at hj
    · rename_i h
      cases j with
      | zero => simp at hs; subst hs; simpa using h
      | succ j => exact ih (by simpa [atI] using hj) (by simpa using hs)
    · simp at hj
theorem atI_hi {ss : List ByteArray} {k : ByteArray} {s : ByteArray} (hs : ss[atI ss k]? = some s) : SL k s := by
  induction ss with
  | nil => simp at hs
  | cons x l ih =>
    unfold atI at hs ih
    rw [List.takeWhile_cons] at hs
    split at hs
    · rename_i h
      exact ih (by simpa using hs)
    · rename_i h
      simp at hs h; subst hs; exact h
/-- Whoever is such a place is it. -/
theorem atI_eq {ss : List ByteArray} {k : ByteArray} {i : Nat} (h0 : i ≤ ss.length) (h1 : ∀ j s, j < i → ss[j]? = some s → ¬ SL k s) (h2 : ∀ s, ss[i]? = some s → SL k s) : i = atI ss k := by
  rcases Nat.lt_trichotomy i (atI ss k) with h | h | h
  · have := atI_le ss k
    exact absurd (h2 _ (List.getElem?_eq_getElem (by omega))) (atI_lo h (List.getElem?_eq_getElem (by omega)))
  · exact h
  · exact absurd (atI_hi (List.getElem?_eq_getElem (by omega))) (h1 _ _ h (List.getElem?_eq_getElem (by omega)))

def findT : (d : Nat) → Tr d → ByteArray → Nat
  | 0, p, _ => p
  | d + 1, t, k => match t.1[atI t.2 k]? with
    | some c => findT d c k
    | none => 0

def splT {d : Nat} (ks : List (Tr d)) (ss : List ByteArray) : Tr (d + 1) × Option (Tr (d + 1) × ByteArray) :=
  if ks.length ≤ 5 then ((ks, ss), none) else ((ks.take (ks.length / 2), ss.take (ks.length / 2 - 1)), some ((ks.drop (ks.length / 2), ss.drop (ks.length / 2)), ss.getD (ks.length / 2 - 1) mt))

def insT : (d : Nat) → Tr d → ByteArray → Nat → Tr d × Option (Tr d × ByteArray)
  | 0, p, sep, pid => (p, some (pid, sep))
  | d + 1, t, sep, pid => match t.1[atI t.2 sep]? with
    | none => (t, none)
    | some c => match insT d c sep pid with
      | (c', none) => ((t.1.set (atI t.2 sep) c', t.2), none)
      | (c', some (m, b)) => splT ((t.1.set (atI t.2 sep) c').take (atI t.2 sep + 1) ++ m :: (t.1.set (atI t.2 sep) c').drop (atI t.2 sep + 1)) (t.2.take (atI t.2 sep) ++ b :: t.2.drop (atI t.2 sep))

/-- A node, cut at one of its children. -/
structure Cut (d : Nat) (t : Tr (d + 1)) (s : ByteArray) (i : Nat) (A : List (Tr d)) (c : Tr d) (B : List (Tr d)) (SA : List ByteArray) (sc : ByteArray) (SB : List ByteArray) : Prop where
  ks : t.1 = A ++ c :: B
  ss : s :: t.2 = SA ++ sc :: SB
  la : A.length = i
  lsa : SA.length = i
  lsb : B.length = SB.length
theorem Cut.lv {d : Nat} {t : Tr (d + 1)} {s : ByteArray} {i : Nat} {A B : List (Tr d)} {c : Tr d} {SA SB : List ByteArray} {sc : ByteArray} (h : Cut d t s i A c B SA sc SB) : lv (d + 1) t s = lvK d A SA ++ (lv d c sc ++ lvK d B SB) := by
  rw [lv_node, h.ks, h.ss, lvK_app (by rw [h.la, h.lsa]), lvK_cons]
theorem cut_at {d : Nat} {t : Tr (d + 1)} (s : ByteArray) {i : Nat} (hl : t.1.length = t.2.length + 1) {c : Tr d} (hc : t.1[i]? = some c) : ∃ A B SA sc SB, Cut d t s i A c B SA sc SB := by
  obtain ⟨hi, rfl⟩ := List.getElem?_eq_some_iff.1 hc
  have hi2 : i < (s :: t.2).length := by simp; omega
  refine ⟨t.1.take i, t.1.drop (i + 1), (s :: t.2).take i, (s :: t.2)[i], (s :: t.2).drop (i + 1), ?_, ?_, ?_, ?_, ?_⟩
  · rw [← List.drop_eq_getElem_cons hi, List.take_append_drop]
  · rw [← List.drop_eq_getElem_cons hi2, List.take_append_drop]
  · simp; omega
  · simp; omega
  · simp; omega
theorem Cut.ss' {d : Nat} {t : Tr (d + 1)} {s : ByteArray} {i : Nat} {A B : List (Tr d)} {c : Tr d} {SA SB : List ByteArray} {sc : ByteArray} (h : Cut d t s i A c B SA sc SB) (j : Nat) : (s :: t.2)[j]? = (SA ++ sc :: SB)[j]? := by rw [h.ss]

theorem lv_head : ∀ (d : Nat) (t : Tr d) (s : ByteArray), Fan d t → ∃ p l, lv d t s = (s, p) :: l
  | 0, p, s, _ => ⟨p, [], rfl⟩
  | d + 1, t, s, h => by
    obtain ⟨h1, h2, h3, h4⟩ := h
    rw [lv_node]
    cases hk : t.1 with
    | nil => rw [hk] at h1; simp at h1
    | cons c ks =>
      obtain ⟨p, l, e⟩ := lv_head d c s (h4 c (by rw [hk]; simp))
      exact ⟨p, l ++ lvK d ks t.2, by rw [lvK_cons, e]; rfl⟩
/-- Of each child the first leaf begins where the child begins. -/
theorem lvK_mem {d : Nat} : ∀ {ks : List (Tr d)} {bs : List ByteArray}, (∀ x ∈ ks, Fan d x) → ks.length = bs.length → ∀ b ∈ bs, ∃ p, (b, p) ∈ lvK d ks bs
  | [], [], _, _, b, hb => by cases hb
  | [], _ :: _, _, h, _, _ => by simp at h
  | _ :: _, [], _, h, _, _ => by simp at h
  | c :: ks, b' :: bs, hF, h, b, hb => by
    rcases List.mem_cons.1 hb with rfl | hb
    · obtain ⟨p, l, e⟩ := lv_head d c b (hF c (by simp))
      exact ⟨p, by rw [lvK_cons, e]; simp⟩
    · obtain ⟨p, hp⟩ := lvK_mem (ks := ks) (fun x hx => hF x (by simp [hx])) (by simpa using h) b hb
      exact ⟨p, by rw [lvK_cons]; exact List.mem_append_right _ hp⟩
/-- Where a list of children begins: all leaves lie there or behind it. -/
theorem lvK_first {d : Nat} {c : Tr d} {ks : List (Tr d)} {b : ByteArray} {bs : List ByteArray} (hF : Fan d c) (hs : SrtL (lvK d (c :: ks) (b :: bs))) : ∀ x ∈ lvK d (c :: ks) (b :: bs), x.1 = b ∨ SL b x.1 := by
  obtain ⟨p, l, e⟩ := lv_head d c b hF
  intro x hx
  rw [lvK_cons, e] at hs hx
  rcases List.mem_cons.1 hx with rfl | hx
  · exact Or.inl rfl
  · exact Or.inr ((List.pairwise_cons.1 hs).1 x hx)

/-- A key's child: what lies ahead of it lies below the key, what lies behind it above. -/
theorem cut_key {d : Nat} {t : Tr (d + 1)} {s k : ByteArray} (hl : t.1.length = t.2.length + 1) (hF : ∀ x ∈ t.1, Fan d x) (hs : SrtL (lv (d + 1) t s)) (hsk : ¬ SL k s) {A B : List (Tr d)} {c : Tr d} {SA SB : List ByteArray} {sc : ByteArray} (h : Cut d t s (atI t.2 k) A c B SA sc SB) :
    ¬ SL k sc ∧ (∀ x ∈ lvK d A SA, SL x.1 sc) ∧ (∀ x ∈ lvK d B SB, SL k x.1) ∧ SrtL (lv d c sc) ∧ Fan d c := by
  have hFc : Fan d c := hF c (by rw [h.ks]; simp)
  have hsc : (s :: t.2)[atI t.2 k]? = some sc := by rw [h.ss', List.getElem?_append_right (by rw [h.lsa]; exact Nat.le_refl _), h.lsa]; simp
  have e := h.lv
  rw [e] at hs
  obtain ⟨h1, h2, h3⟩ := List.pairwise_append.1 hs
  obtain ⟨h4, h5, h6⟩ := List.pairwise_append.1 h2
  obtain ⟨p, l, e2⟩ := lv_head d c sc hFc
  refine ⟨?_, ?_, ?_, h4, hFc⟩
  · cases hi : atI t.2 k with
    | zero => rw [hi] at hsc; simp at hsc; rw [← hsc]; exact hsk
    | succ j => rw [hi] at hsc; exact atI_lo (ss := t.2) (by rw [hi]; exact Nat.lt_succ_self j) (by simpa using hsc)
  · intro x hx
    exact h3 x hx (sc, p) (by rw [e2]; simp)
  · cases SB with
    | nil =>
      have : B = [] := List.length_eq_zero_iff.1 (by simpa using h.lsb)
      subst this
      intro x hx; cases hx
    | cons sb SB =>
      have hsb : t.2[atI t.2 k]? = some sb := by
        have : (s :: t.2)[atI t.2 k + 1]? = some sb := by rw [h.ss', List.getElem?_append_right (by rw [h.lsa]; omega), h.lsa]; simp
        simpa using this
      have hk := atI_hi hsb
      cases hB : B with
      | nil => intro x hx; cases hx
      | cons c2 B2 =>
        intro x hx
        rw [hB] at h5
        rcases lvK_first (hF c2 (by rw [h.ks, hB]; simp)) h5 x hx with e | e
        · rw [e]; exact hk
        · exact SL_trans hk e

theorem find_ok : ∀ (d : Nat) (t : Tr d) (s k : ByteArray), Fan d t → SrtL (lv d t s) → ¬ SL k s → ∃ A B b, lv d t s = A ++ (b, findT d t k) :: B ∧ ¬ SL k b ∧ (∀ x ∈ A, SL x.1 b) ∧ ∀ x ∈ B, SL k x.1
  | 0, p, s, k, _, _, h => ⟨[], [], s, rfl, h, by simp, by simp⟩
  | d + 1, t, s, k, hF, hs, h => by
    obtain ⟨h1, h2, h3, h4⟩ := hF
    have hi : atI t.2 k < t.1.length := by have := atI_le t.2 k; omega
    have hc : t.1[atI t.2 k]? = some t.1[atI t.2 k] := List.getElem?_eq_getElem hi
    obtain ⟨A, B, SA, sc, SB, hC⟩ := cut_at s h3 hc
    obtain ⟨c1, c2, c3, c4, c5⟩ := cut_key h3 h4 hs h hC
    obtain ⟨A', B', b, e1, e2, e3, e4⟩ := find_ok d _ sc k c5 c4 c1
    obtain ⟨p, l, e5⟩ := lv_head d _ sc c5
    refine ⟨lvK d A SA ++ A', B' ++ lvK d B SB, b, ?_, e2, ?_, ?_⟩
    · rw [hC.lv, e1]
      simp only [findT, hc, List.append_assoc, List.cons_append]
    · intro x hx
      rcases List.mem_append.1 hx with hx | hx
      · have hb : sc = b ∨ SL sc b := by
          have hm : (b, findT d t.1[atI t.2 k] k) ∈ lv d t.1[atI t.2 k] sc := by rw [e1]; simp
          rw [e5] at hm c4
          rcases List.mem_cons.1 hm with hm | hm
          · cases hm; exact Or.inl rfl
          · exact Or.inr ((List.pairwise_cons.1 c4).1 _ hm)
        rcases hb with rfl | hb
        · exact c2 x hx
        · exact SL_trans (c2 x hx) hb
      · exact e3 x hx
    · intro x hx
      rcases List.mem_append.1 hx with hx | hx
      · exact e4 x hx
      · exact c3 x hx
end Go.Proofs.Ythofkkmnngmafaa
