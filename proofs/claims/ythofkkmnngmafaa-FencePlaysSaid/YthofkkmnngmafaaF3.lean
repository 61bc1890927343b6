/- Plain: a leaf that is taken out. -/
import Derived.Test.YthofkkmnngmafaaF2
namespace Go.Proofs.Ythofkkmnngmafaa
set_option linter.unusedVariables false
set_option linter.unusedSimpArgs false
set_option linter.unusedSectionVars false

def mendT (d : Nat) (t : Tr (d + 2)) (i : Nat) : Tr (d + 2) :=
  match t.1[i]? with
  | none => t
  | some x => if 2 ≤ x.1.length then t else
    match t.1[i - 1]?, t.1[i - 1 + 1]? with
    | some a, some b =>
      match splT (a.1 ++ b.1) (a.2 ++ t.2.getD (i - 1) mt :: b.2) with
      | (m, none) => ((t.1.set (i - 1) m).eraseIdx (i - 1 + 1), t.2.eraseIdx (i - 1))
      | (m, some (r, z)) => (((t.1.set (i - 1) m).eraseIdx (i - 1 + 1)).take (i - 1 + 1) ++ r :: ((t.1.set (i - 1) m).eraseIdx (i - 1 + 1)).drop (i - 1 + 1), (t.2.eraseIdx (i - 1)).take (i - 1) ++ z :: (t.2.eraseIdx (i - 1)).drop (i - 1))
    | _, _ => t

def remT : (d : Nat) → Tr (d + 1) → ByteArray → Tr (d + 1) × ByteArray
  | 0, t, sep => if 0 < atI t.2 sep then ((t.1.eraseIdx (atI t.2 sep), t.2.eraseIdx (atI t.2 sep - 1)), mt) else ((t.1.eraseIdx 0, t.2.eraseIdx 0), t.2.getD 0 mt)
  | d + 1, t, sep => match t.1[atI t.2 sep]? with
    | none => (t, mt)
    | some c => match remT d c sep with
      | (c', b) => if 0 < atI t.2 sep ∧ b ≠ mt then (mendT d (t.1.set (atI t.2 sep) c', t.2.set (atI t.2 sep - 1) b) (atI t.2 sep), mt) else (mendT d (t.1.set (atI t.2 sep) c', t.2) (atI t.2 sep), b)

theorem erase_at {α : Type} (A : List α) (c : α) (B : List α) : (A ++ c :: B).eraseIdx A.length = A ++ B := by
  induction A with
  | nil => rfl
  | cons x A ih => simp only [List.cons_append, List.length_cons, List.eraseIdx_cons_succ, ih]
theorem erase_after {α : Type} (A : List α) (c m : α) (B : List α) : (A ++ c :: m :: B).eraseIdx (A.length + 1) = A ++ c :: B := by
  have := erase_at (A ++ [c]) m B
  simpa using this

/-- A pair of neighbours in a node. -/
structure Cut2 (d : Nat) (t : Tr (d + 1)) (s : ByteArray) (k : Nat) (A : List (Tr d)) (a b : Tr d) (B : List (Tr d)) (SA : List ByteArray) (sa sb : ByteArray) (SB : List ByteArray) : Prop where
  ks : t.1 = A ++ a :: b :: B
  ss : s :: t.2 = SA ++ sa :: sb :: SB
  la : A.length = k
  lsa : SA.length = k
  lsb : B.length = SB.length
theorem cut2_at {d : Nat} {t : Tr (d + 1)} (s : ByteArray) {k : Nat} (hl : t.1.length = t.2.length + 1) (hk : k + 1 < t.1.length) : ∃ A a b B SA sa sb SB, Cut2 d t s k A a b B SA sa sb SB := by
  obtain ⟨A, B, SA, sa, SB, h⟩ := cut_at s hl (List.getElem?_eq_getElem (show k < t.1.length by omega))
  have l1 := congrArg List.length h.ks
  simp only [List.length_append, List.length_cons] at l1
  have l2 := h.la
  have l3 := h.lsb
  cases hB : B with
  | nil => rw [hB] at l1; simp at l1; omega
  | cons b B' =>
    cases hS : SB with
    | nil => rw [hB, hS] at l3; simp at l3
    | cons sb SB' =>
      rw [hB, hS] at h
      exact ⟨A, _, b, B', SA, sa, sb, SB', h.ks, h.ss, h.la, h.lsa, by simpa using h.lsb⟩
theorem begin_at {s : ByteArray} {ss SA : List ByteArray} {sa sb : ByteArray} {SB : List ByteArray} (h : s :: ss = SA ++ sa :: sb :: SB) : ss[SA.length]? = some sb ∧ s :: ss.eraseIdx SA.length = SA ++ sa :: SB := by
  refine ⟨?_, ?_⟩
  · have : (s :: ss)[SA.length + 1]? = some sb := by rw [h, List.getElem?_append_right (by omega)]; simp
    simpa using this
  · rw [← List.eraseIdx_cons_succ, h]; exact erase_after _ _ _ _
theorem begin_set {s : ByteArray} {ss SA : List ByteArray} {sc : ByteArray} {SB : List ByteArray} (h : s :: ss = SA ++ sc :: SB) (h0 : 0 < SA.length) (x : ByteArray) : s :: ss.set (SA.length - 1) x = SA ++ x :: SB := by
  rw [← List.set_cons_succ, show SA.length - 1 + 1 = SA.length by omega, h]; exact set_at _ _ _ _
theorem begin_erase {s : ByteArray} {ss SA : List ByteArray} {sc : ByteArray} {SB : List ByteArray} (h : s :: ss = SA ++ sc :: SB) (h0 : 0 < SA.length) : s :: ss.eraseIdx (SA.length - 1) = SA ++ SB := by
  rw [← List.eraseIdx_cons_succ, show SA.length - 1 + 1 = SA.length by omega, h]; exact erase_at _ _ _

theorem mend_ok (d : Nat) (t : Tr (d + 2)) (i : Nat) (s : ByteArray) (h1 : 2 ≤ t.1.length) (h2 : t.1.length ≤ 5) (h3 : t.1.length = t.2.length + 1) (hi : i < t.1.length) (hF : ∀ j x, t.1[j]? = some x → (j = i → Fan1 d x) ∧ (j ≠ i → Fan (d + 1) x)) :
    lv (d + 2) (mendT d t i) s = lv (d + 2) t s ∧ Fan1 (d + 1) (mendT d t i) := by
  obtain ⟨x, hx⟩ : ∃ x, t.1[i]? = some x := ⟨_, List.getElem?_eq_getElem hi⟩
  have hxF := (hF i x hx).1 rfl
  unfold mendT
  rw [hx]
  dsimp only
  split
  · rename_i hge
    refine ⟨rfl, by omega, h2, h3, fun y hy => ?_⟩
    obtain ⟨j, hj, rfl⟩ := List.getElem_of_mem hy
    by_cases hji : j = i
    · subst hji
      have e : t.1[j]? = some t.1[j] := List.getElem?_eq_getElem hj
      rw [hx] at e; cases e
      exact ⟨hge, hxF.2.1, hxF.2.2.1, hxF.2.2.2⟩
    · exact (hF j _ (List.getElem?_eq_getElem hj)).2 hji
  · rename_i hlt
    have hx1 : x.1.length = 1 := by have := hxF.1; omega
    have hk : i - 1 + 1 < t.1.length := by omega
    obtain ⟨A, a, b, B, SA, sa, sb, SB, h⟩ := cut2_at s h3 hk
    have la := h.la
    have lsa := h.lsa
    have ha : t.1[i - 1]? = some a := by rw [h.ks, List.getElem?_append_right (by omega), la]; simp
    have hb : t.1[i - 1 + 1]? = some b := by rw [h.ks, List.getElem?_append_right (by omega), la]; simp
    obtain ⟨hsb, hse⟩ := begin_at h.ss
    rw [lsa] at hsb hse
    rw [ha, hb]
    dsimp only
    rw [List.getD_eq_getElem?_getD, hsb, Option.getD_some]
    -- both
    have ha1 : Fan1 d a := by
      have := hF _ _ ha
      by_cases e : i - 1 = i
      · exact this.1 e
      · exact (this.2 e).one
    have hb1 : Fan1 d b := by
      have := hF _ _ hb
      by_cases e : i - 1 + 1 = i
      · exact this.1 e
      · exact (this.2 e).one
    have hsum : 3 ≤ a.1.length + b.1.length ∧ a.1.length + b.1.length ≤ 6 := by
      rcases Nat.eq_zero_or_pos i with h0 | h0
      · have e1 : i - 1 = i := by omega
        have e2 : a = x := by rw [e1, hx] at ha; exact (Option.some.inj ha).symm
        have hb2 := (hF _ _ hb).2 (by omega)
        have h5 := hb2.1
        have h6 := hb2.2.1
        rw [e2, hx1]; omega
      · have e1 : i - 1 + 1 = i := by omega
        have e2 : b = x := by rw [e1, hx] at hb; exact (Option.some.inj hb).symm
        have ha2 := (hF _ _ ha).2 (by omega)
        have h5 := ha2.1
        have h6 := ha2.2.1
        rw [e2, hx1]; omega
    have hok := splT_ok (a.1 ++ b.1) (a.2 ++ sb :: b.2) sa (by simp; omega) (by simp; omega) (by have := ha1.2.2.1; have := hb1.2.2.1; simp; omega) (by
      intro y hy
      rcases List.mem_append.1 hy with hy | hy
      · exact ha1.2.2.2 y hy
      · exact hb1.2.2.2 y hy)
    have hjoin : lvK d (a.1 ++ b.1) (sa :: (a.2 ++ sb :: b.2)) = lv (d + 1) a sa ++ lv (d + 1) b sb := by
      rw [← List.cons_append, lvK_app (by have := ha1.2.2.1; simp; omega)]; rfl
    rw [hjoin] at hok
    have hlv : lv (d + 2) t s = lvK (d + 1) A SA ++ (lv (d + 1) a sa ++ (lv (d + 1) b sb ++ lvK (d + 1) B SB)) := by
      rw [lv_node, h.ks, h.ss, lvK_app (by omega), lvK_cons, lvK_cons]
    have hFA : ∀ y ∈ A, Fan (d + 1) y := by
      intro y hy
      obtain ⟨j, hj, rfl⟩ := List.getElem_of_mem hy
      refine (hF j A[j] ?_).2 (by omega)
      rw [h.ks, List.getElem?_append_left hj, List.getElem?_eq_getElem hj]
    have hFB : ∀ y ∈ B, Fan (d + 1) y := by
      intro y hy
      obtain ⟨j, hj, rfl⟩ := List.getElem_of_mem hy
      refine (hF (A.length + 2 + j) B[j] ?_).2 (by omega)
      rw [h.ks, List.getElem?_append_right (by omega), show A.length + 2 + j - A.length = j + 2 by omega]
      simp
    have hset : ∀ m, (t.1.set (i - 1) m).eraseIdx (i - 1 + 1) = A ++ m :: B := fun m => by
      rw [h.ks]
      conv => lhs; rw [← la]
      rw [set_at]; exact erase_after _ _ _ _
    have hlen : A.length + (B.length + 2) = t.1.length := by rw [h.ks]; simp
    generalize splT (a.1 ++ b.1) (a.2 ++ sb :: b.2) = r at hok ⊢
    obtain ⟨m, o⟩ := r
    cases o with
    | none =>
      obtain ⟨e1, e2⟩ := hok
      dsimp only
      rw [hset]
      refine ⟨?_, ?_, ?_, ?_, ?_⟩
      · rw [hlv, lv_node]
        show lvK (d + 1) (A ++ m :: B) (s :: t.2.eraseIdx (i - 1)) = _
        rw [hse, lvK_app (by omega), lvK_cons, e1]; simp
      · show 1 ≤ (A ++ m :: B).length
        simp; omega
      · show (A ++ m :: B).length ≤ 5
        simp; omega
      · show (A ++ m :: B).length = (t.2.eraseIdx (i - 1)).length + 1
        rw [List.length_eraseIdx_of_lt (by omega)]; simp; omega
      · intro y hy
        replace hy : y ∈ A ++ m :: B := hy
        rcases List.mem_append.1 hy with hy | hy
        · exact hFA y hy
        · rcases List.mem_cons.1 hy with rfl | hy
          · exact e2
          · exact hFB y hy
    | some rz =>
      obtain ⟨r, z⟩ := rz
      obtain ⟨e1, e2, e3⟩ := hok
      dsimp only
      rw [hset]
      have hk' : (A ++ m :: B).take (i - 1 + 1) ++ r :: (A ++ m :: B).drop (i - 1 + 1) = A ++ m :: r :: B := by
        have := ins_after A m r B
        rw [la] at this; exact this
      have hs' : s :: ((t.2.eraseIdx (i - 1)).take (i - 1) ++ z :: (t.2.eraseIdx (i - 1)).drop (i - 1)) = SA ++ sa :: z :: SB := by
        have := ins_begin (m := z) hse
        rw [lsa] at this; exact this
      rw [hk']
      refine ⟨?_, ?_, ?_, ?_, ?_⟩
      · rw [hlv, lv_node]
        show lvK (d + 1) (A ++ m :: r :: B) (s :: ((t.2.eraseIdx (i - 1)).take (i - 1) ++ z :: (t.2.eraseIdx (i - 1)).drop (i - 1))) = _
        rw [hs', lvK_app (by omega), lvK_cons, lvK_cons, ← List.append_assoc (lv (d + 1) m sa), e1]; simp
      · show 1 ≤ (A ++ m :: r :: B).length
        simp; omega
      · show (A ++ m :: r :: B).length ≤ 5
        simp; omega
      · have := congrArg List.length hs'
        simp only [List.length_cons, List.length_append] at this
        show (A ++ m :: r :: B).length = ((t.2.eraseIdx (i - 1)).take (i - 1) ++ z :: (t.2.eraseIdx (i - 1)).drop (i - 1)).length + 1
        have l3 := h.lsb
        simp only [List.length_append, List.length_cons] at this ⊢
        omega
      · intro y hy
        replace hy : y ∈ A ++ m :: r :: B := hy
        rcases List.mem_append.1 hy with hy | hy
        · exact hFA y hy
        · rcases List.mem_cons.1 hy with rfl | hy
          · exact e2
          · rcases List.mem_cons.1 hy with rfl | hy
            · exact e3
            · exact hFB y hy

abbrev without (l : List Lf) (sep : ByteArray) : List Lf := l.filter fun x => decide (x.1 ≠ sep)
theorem without_all {l : List Lf} {sep : ByteArray} (h : ∀ x ∈ l, x.1 ≠ sep) : without l sep = l := by
  unfold without; rw [List.filter_eq_self]; intro x hx; simpa using h x hx
/-- Where what is left begins. -/
def begT (s b : ByteArray) : ByteArray := if b = mt then s else b

theorem remT_ok : ∀ (d : Nat) (t : Tr (d + 1)) (s sep : ByteArray), Fan (d + 1) t → SrtL (lv (d + 1) t s) → (∃ p, (sep, p) ∈ lv (d + 1) t s) →
    lv (d + 1) (remT d t sep).1 (begT s (remT d t sep).2) = without (lv (d + 1) t s) sep ∧ Fan1 d (remT d t sep).1 ∧ ((remT d t sep).2 = mt ↔ sep ≠ s)
  | d, t, s, sep, hF, hs, ⟨p, hp⟩ => by
    have hF' := hF
    obtain ⟨h1, h2, h3, h4⟩ := hF
    -- the begin is the least
    obtain ⟨p0, l0, e0⟩ := lv_head (d + 1) t s hF'
    have hle : sep = s ∨ SL s sep := by
      have hp' := hp
      rw [e0] at hp' hs
      rcases List.mem_cons.1 hp' with hp' | hp'
      · cases hp'; exact Or.inl rfl
      · exact Or.inr ((List.pairwise_cons.1 hs).1 _ hp')
    have hsk : ¬ SL sep s := by
      rcases hle with rfl | k
      · exact SL_irrefl _
      · exact SL_asymm k
    have hi : atI t.2 sep < t.1.length := by have := atI_le t.2 sep; omega
    obtain ⟨c, hc⟩ : ∃ c, t.1[atI t.2 sep]? = some c := ⟨_, List.getElem?_eq_getElem hi⟩
    obtain ⟨A, B, SA, sc, SB, hC⟩ := cut_at s h3 hc
    obtain ⟨c1, c2, c3, c4, c5⟩ := cut_key h3 h4 hs hsk hC
    have e := hC.lv
    have hmem : (sep, p) ∈ lv d c sc := by
      rw [e] at hp
      rcases List.mem_append.1 hp with k | k
      · exact absurd (c2 _ k) c1
      · rcases List.mem_append.1 k with k | k
        · exact k
        · exact absurd (c3 _ k) (SL_irrefl _)
    have hscsep : sep = sc ∨ SL sc sep := by
      obtain ⟨p1, l1, e1⟩ := lv_head d c sc c5
      rw [e1] at hmem c4
      rcases List.mem_cons.1 hmem with k | k
      · cases k; exact Or.inl rfl
      · exact Or.inr ((List.pairwise_cons.1 c4).1 _ k)
    have hAn : ∀ x ∈ lvK d A SA, x.1 ≠ sep := by
      intro x hx k
      have := c2 x hx
      rw [k] at this
      exact c1 this
    have hBn : ∀ x ∈ lvK d B SB, x.1 ≠ sep := by
      intro x hx k
      have := c3 x hx
      rw [k] at this
      exact SL_irrefl _ this
    have hwo : without (lv (d + 1) t s) sep = lvK d A SA ++ (without (lv d c sc) sep ++ lvK d B SB) := by
      rw [e]
      unfold without
      rw [List.filter_append, List.filter_append]
      congr 1
      · exact without_all hAn
      · congr 1; exact without_all hBn
    -- the first child's begin is the node's
    have h0 : atI t.2 sep = 0 → sc = s ∧ A = [] ∧ SA = [] := by
      intro k
      have l1 := hC.la
      have l2 := hC.lsa
      rw [k] at l1 l2
      have a1 := List.length_eq_zero_iff.1 l1
      have a2 := List.length_eq_zero_iff.1 l2
      have := hC.ss
      rw [a2] at this
      simp at this
      exact ⟨this.1.symm, a1, a2⟩
    have hpos : 0 < atI t.2 sep → SL s sc := by
      intro k
      have l1 := hC.la
      have l2 := hC.lsa
      cases hA : A with
      | nil => rw [hA] at l1; simp at l1; omega
      | cons a A' =>
        cases hS : SA with
        | nil => rw [hS] at l2; simp at l2; omega
        | cons sa SA' =>
          have hss := hC.ss
          rw [hS] at hss
          simp at hss
          obtain ⟨pa, la', ea⟩ := lv_head d a sa (h4 a (by rw [hC.ks, hA]; simp))
          have := c2 (sa, pa) (by rw [hA, hS, lvK_cons, ea]; simp)
          rw [hss.1]; exact this
    have hlens : A.length + (B.length + 1) = t.1.length := by rw [hC.ks]; simp
    have l1 := hC.la
    have l2 := hC.lsa
    have l3 := hC.lsb
    cases d with
    | zero =>
      have hsep : sep = sc := by
        have : (sep, p) ∈ [(sc, c)] := hmem
        simp at this; exact this.1
      have hw1 : without (lv 0 c sc) sep = [] := by
        show List.filter _ [(sc, c)] = []
        simp [hsep]
      rw [hw1] at hwo
      have hFA : ∀ x ∈ A ++ B, Fan 0 x := fun _ _ => trivial
      unfold remT
      split
      · rename_i hp0
        have hks : t.1.eraseIdx (atI t.2 sep) = A ++ B := by
          rw [hC.ks]; conv => lhs; rw [← l1]
          exact erase_at _ _ _
        have hss : s :: t.2.eraseIdx (atI t.2 sep - 1) = SA ++ SB := by
          have := begin_erase hC.ss (by omega)
          rw [l2] at this; exact this
        have hlen := congrArg List.length hss
        simp only [List.length_cons, List.length_append] at hlen
        refine ⟨?_, ⟨?_, ?_, ?_, fun _ _ => trivial⟩, ?_⟩
        · rw [hwo]
          unfold begT
          rw [if_pos rfl, lv_node]
          show lvK 0 (t.1.eraseIdx (atI t.2 sep)) (s :: t.2.eraseIdx (atI t.2 sep - 1)) = _
          rw [hks, hss, lvK_app (by omega)]; rfl
        · show 1 ≤ (t.1.eraseIdx (atI t.2 sep)).length
          rw [hks]; simp; omega
        · show (t.1.eraseIdx (atI t.2 sep)).length ≤ 5
          rw [hks]; simp; omega
        · show (t.1.eraseIdx (atI t.2 sep)).length = (t.2.eraseIdx (atI t.2 sep - 1)).length + 1
          rw [hks]; simp; omega
        · refine ⟨fun _ k => ?_, fun _ => rfl⟩
          have := hpos hp0
          rw [← hsep, k] at this
          exact SL_irrefl _ this
      · rename_i hp0
        have hz : atI t.2 sep = 0 := by omega
        obtain ⟨q1, q2, q3⟩ := h0 hz
        have hks : t.1.eraseIdx 0 = B := by rw [hC.ks, q2]; rfl
        have hSB : t.2 = SB := by have := hC.ss; rw [q3] at this; simp at this; exact this.2
        cases hSB2 : SB with
        | nil => rw [hSB, hSB2] at h3; simp at h3; omega
        | cons sb SB' =>
          have ht2 : t.2 = sb :: SB' := by rw [hSB, hSB2]
          have hne : sb ≠ mt := by
            intro k
            cases hB : B with
            | nil => rw [hB, hSB2] at l3; simp at l3
            | cons b B' =>
              have hb := c3 (sb, b) (by rw [hB, hSB2, lvK_cons]; simp [lv])
              replace hb : SL sep sb := hb
              rw [k] at hb
              exact absurd hb (by simp [SL, mt])
          refine ⟨?_, ⟨?_, ?_, ?_, fun _ _ => trivial⟩, ?_⟩
          · rw [hwo, q2, q3]
            unfold begT
            dsimp only
            rw [ht2, List.getD_cons_zero, if_neg hne, lv_node]
            show lvK 0 (t.1.eraseIdx 0) (sb :: SB') = _
            rw [hks, hSB2]; rfl
          · show 1 ≤ (t.1.eraseIdx 0).length
            rw [hks]; rw [q2] at hlens; simp at hlens; omega
          · show (t.1.eraseIdx 0).length ≤ 5
            rw [hks]; omega
          · show (t.1.eraseIdx 0).length = (t.2.eraseIdx 0).length + 1
            rw [hks, ht2]; rw [hSB2] at l3; simpa using l3
          · refine ⟨fun k => ?_, fun k => absurd (hsep.trans q1) k⟩
            dsimp only at k
            rw [ht2, List.getD_cons_zero] at k
            exact absurd k hne
    | succ d =>
      obtain ⟨r1, r2, r3⟩ := remT_ok d c sc sep c5 c4 ⟨p, hmem⟩
      rw [← r1] at hwo
      simp only [remT, hc]
      generalize remT d c sep = r at r1 r2 r3 hwo ⊢
      obtain ⟨c', b⟩ := r
      dsimp only at r1 r2 r3 hwo ⊢
      have hset : t.1.set (atI t.2 sep) c' = A ++ c' :: B := by
        rw [hC.ks]; conv => lhs; rw [← l1]
        exact set_at _ _ _ _
      have hFj : ∀ j x, (A ++ c' :: B)[j]? = some x → (j = atI t.2 sep → Fan1 d x) ∧ (j ≠ atI t.2 sep → Fan (d + 1) x) := by
        intro j x hx
        refine ⟨fun k => ?_, fun k => ?_⟩
        · rw [k, ← l1, List.getElem?_append_right (Nat.le_refl _)] at hx
          simp at hx; rw [← hx]; exact r2
        · have hm : x ∈ A ∨ x ∈ B := by
            rcases Nat.lt_or_ge j A.length with q | q
            · rw [List.getElem?_append_left q] at hx
              exact Or.inl (List.mem_of_getElem? hx)
            · rw [List.getElem?_append_right q, show j - A.length = (j - A.length - 1) + 1 by omega, List.getElem?_cons_succ] at hx
              exact Or.inr (List.mem_of_getElem? hx)
          refine h4 x ?_
          rw [hC.ks]
          rcases hm with q | q
          · simp [q]
          · simp [q]
      have hlen' : (A ++ c' :: B).length = t.1.length := by rw [hC.ks]; simp
      split
      · rename_i hcond
        obtain ⟨hp0, hb⟩ := hcond
        have hss : s :: t.2.set (atI t.2 sep - 1) b = SA ++ b :: SB := by
          have := begin_set hC.ss (by omega) b
          rw [l2] at this; exact this
        obtain ⟨m1, m2⟩ := mend_ok d (A ++ c' :: B, t.2.set (atI t.2 sep - 1) b) (atI t.2 sep) s (by rw [hlen']; exact h1) (by rw [hlen']; exact h2) (by rw [hlen']; simpa using h3) (by rw [hlen']; exact hi) hFj
        rw [hset]
        refine ⟨?_, m2, ?_⟩
        · unfold begT
          rw [if_pos rfl, m1, hwo, lv_node]
          show lvK (d + 1) (A ++ c' :: B) (s :: t.2.set (atI t.2 sep - 1) b) = _
          rw [hss, lvK_app (by omega), lvK_cons]
          unfold begT
          rw [if_neg hb]
        · refine ⟨fun _ k => ?_, fun _ => rfl⟩
          have h7 := hpos hp0
          rcases hscsep with h8 | h8
          · rw [← h8, k] at h7; exact SL_irrefl _ h7
          · rw [k] at h8; exact SL_asymm h7 h8
      · rename_i hcond
        obtain ⟨m1, m2⟩ := mend_ok d (A ++ c' :: B, t.2) (atI t.2 sep) (begT s b) (by rw [hlen']; exact h1) (by rw [hlen']; exact h2) (by rw [hlen']; exact h3) (by rw [hlen']; exact hi) hFj
        rw [hset]
        rcases Nat.eq_zero_or_pos (atI t.2 sep) with hz | hp0
        · obtain ⟨q1, q2, q3⟩ := h0 hz
          rw [q1] at r3 hwo
          refine ⟨?_, m2, r3⟩
          rw [m1, hwo, lv_node]
          show lvK (d + 1) (A ++ c' :: B) (begT s b :: t.2) = _
          have hSB : t.2 = SB := by have := hC.ss; rw [q3] at this; simp at this; exact this.2
          rw [hSB, q2, q3]; rfl
        · have hb : b = mt := by
            rcases Classical.em (b = mt) with k | k
            · exact k
            · exact absurd ⟨hp0, k⟩ hcond
          subst hb
          refine ⟨?_, m2, ?_⟩
          · rw [m1, hwo, lv_node]
            unfold begT
            rw [if_pos rfl, if_pos rfl]
            show lvK (d + 1) (A ++ c' :: B) (s :: t.2) = _
            rw [hC.ss, lvK_app (by omega), lvK_cons]
          · refine ⟨fun _ k => ?_, fun _ => rfl⟩
            have h7 := hpos hp0
            rcases hscsep with h8 | h8
            · rw [← h8, k] at h7; exact SL_irrefl _ h7
            · rw [k] at h8; exact SL_asymm h7 h8
end Go.Proofs.Ythofkkmnngmafaa
