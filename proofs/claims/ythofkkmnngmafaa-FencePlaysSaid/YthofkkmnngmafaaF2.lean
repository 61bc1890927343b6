/- Plain: a leaf that is put in. -/
import Derived.Test.YthofkkmnngmafaaF1
namespace Go.Proofs.Ythofkkmnngmafaa
set_option linter.unusedVariables false
set_option linter.unusedSimpArgs false
set_option linter.unusedSectionVars false

/-- What is left, and what came of it beside it, are together those leaves. -/
def InsOk (d : Nat) (r : Tr d × Option (Tr d × ByteArray)) (s : ByteArray) (l : List Lf) : Prop :=
  match r with
  | (t, none) => lv d t s = l ∧ Fan d t
  | (t, some (m, b)) => lv d t s ++ lv d m b = l ∧ Fan d t ∧ Fan d m

theorem splT_ok {d : Nat} (ks : List (Tr d)) (ss : List ByteArray) (s : ByteArray) (h1 : 2 ≤ ks.length) (h2 : ks.length ≤ 6) (h3 : ks.length = ss.length + 1) (hF : ∀ x ∈ ks, Fan d x) : InsOk (d + 1) (splT ks ss) s (lvK d ks (s :: ss)) := by
  unfold splT
  split
  · rename_i h
    exact ⟨rfl, h1, h, h3, hF⟩
  · have hk : ks.length / 2 = 3 := by omega
    rw [hk]
    refine ⟨?_, ⟨?_, ?_, ?_, fun x hx => hF x (List.mem_of_mem_take hx)⟩, ?_, ?_, ?_, fun x hx => hF x (List.mem_of_mem_drop hx)⟩
    · rw [lv_node, lv_node]
      have e1 : s :: List.take (3 - 1) ss = (s :: ss).take 3 := by simp
      have e2 : ss.getD (3 - 1) mt :: ss.drop 3 = (s :: ss).drop 3 := by
        have hlt : 2 < ss.length := by omega
        rw [List.drop_succ_cons, List.drop_eq_getElem_cons hlt, List.getD_eq_getElem?_getD, List.getElem?_eq_getElem hlt]; rfl
      show lvK d (ks.take 3) (s :: ss.take (3 - 1)) ++ lvK d (ks.drop 3) (ss.getD (3 - 1) mt :: ss.drop 3) = _
      rw [e1, e2, ← lvK_app (by simp; omega), List.take_append_drop, List.take_append_drop]
    all_goals simp; try omega

theorem set_at {α : Type} (A : List α) (c c' : α) (B : List α) : (A ++ c :: B).set A.length c' = A ++ c' :: B := by
  induction A with
  | nil => rfl
  | cons x A ih => simp only [List.cons_append, List.length_cons, List.set_cons_succ, ih]
theorem ins_after {α : Type} (A : List α) (c m : α) (B : List α) : (A ++ c :: B).take (A.length + 1) ++ m :: (A ++ c :: B).drop (A.length + 1) = A ++ c :: m :: B := by
  rw [show A ++ c :: B = (A ++ [c]) ++ B by simp, List.take_left' (by simp), List.drop_left' (by simp)]; simp
theorem ins_begin {α : Type} {s : α} {ss A : List α} {c m : α} {B : List α} (h : s :: ss = A ++ c :: B) : s :: (ss.take A.length ++ m :: ss.drop A.length) = A ++ c :: m :: B := by
  rw [← ins_after A c m B, ← h]; simp

theorem insT_ok : ∀ (d : Nat) (t : Tr d) (s sep : ByteArray) (pid : Nat), Fan d t → SrtL (lv d t s) → SL s sep → (∀ x ∈ lv d t s, x.1 ≠ sep) →
    ∃ A B, lv d t s = A ++ B ∧ A ≠ [] ∧ (∀ x ∈ A, SL x.1 sep) ∧ (∀ x ∈ B, SL sep x.1) ∧ InsOk d (insT d t sep pid) s (A ++ (sep, pid) :: B)
  | 0, p, s, sep, pid, _, _, h, _ => ⟨[(s, p)], [], rfl, by simp, by simpa using h, by simp, rfl, trivial, trivial⟩
  | d + 1, t, s, sep, pid, hF, hs, h, hn => by
    obtain ⟨h1, h2, h3, h4⟩ := hF
    have hi : atI t.2 sep < t.1.length := by have := atI_le t.2 sep; omega
    obtain ⟨c0, hc⟩ : ∃ c0, t.1[atI t.2 sep]? = some c0 := ⟨_, List.getElem?_eq_getElem hi⟩
    obtain ⟨A, B, SA, sc, SB, hC⟩ := cut_at s h3 hc
    obtain ⟨c1, c2, c3, c4, c5⟩ := cut_key h3 h4 hs (SL_asymm h) hC
    have e := hC.lv
    obtain ⟨p, l, e0⟩ := lv_head d _ sc c5
    have hne : sc ≠ sep := hn (sc, p) (by rw [e, e0]; simp)
    have hlt : SL sc sep := by
      rcases SL_tri sc sep with k | k | k
      · exact k
      · exact absurd k hne
      · exact absurd k c1
    obtain ⟨A', B', e1, e2, e3, e4, e5⟩ := insT_ok d _ sc sep pid c5 c4 hlt (fun x hx => hn x (by rw [e]; simp [hx]))
    refine ⟨lvK d A SA ++ A', B' ++ lvK d B SB, ?_, by simp [e2], ?_, ?_, ?_⟩
    · rw [e, e1]; simp
    · intro x hx
      rcases List.mem_append.1 hx with hx | hx
      · exact SL_trans (c2 x hx) hlt
      · exact e3 x hx
    · intro x hx
      rcases List.mem_append.1 hx with hx | hx
      · exact e4 x hx
      · exact c3 x hx
    · have hset : ∀ c', t.1.set (atI t.2 sep) c' = A ++ c' :: B := fun c' => by
        rw [hC.ks]
        conv => lhs; rw [← hC.la]
        exact set_at _ _ _ _
      have hFA : ∀ x ∈ A, Fan d x := fun x hx => h4 x (by rw [hC.ks]; simp [hx])
      have hFB : ∀ x ∈ B, Fan d x := fun x hx => h4 x (by rw [hC.ks]; simp [hx])
      have hlab : A.length + (B.length + 1) = t.1.length := by rw [hC.ks]; simp
      simp only [insT, hc]
      generalize insT d c0 sep pid = r at e5 ⊢
      obtain ⟨c', o⟩ := r
      cases o with
      | none =>
        obtain ⟨e6, e7⟩ := e5
        show lv (d + 1) (t.1.set (atI t.2 sep) c', t.2) s = _ ∧ Fan (d + 1) (t.1.set (atI t.2 sep) c', t.2)
        refine ⟨?_, ?_, ?_, ?_, ?_⟩
        · rw [lv_node]
          show lvK d (t.1.set (atI t.2 sep) c') (s :: t.2) = _
          rw [hset, hC.ss, lvK_app (by rw [hC.la, hC.lsa]), lvK_cons, e6]; simp
        · simpa using h1
        · simpa using h2
        · simpa using h3
        · intro x hx
          replace hx : x ∈ t.1.set (atI t.2 sep) c' := hx
          rw [hset] at hx
          rcases List.mem_append.1 hx with hx | hx
          · exact hFA x hx
          · rcases List.mem_cons.1 hx with rfl | hx
            · exact e7
            · exact hFB x hx
      | some mb =>
        obtain ⟨m, b⟩ := mb
        obtain ⟨e6, e7, e8⟩ := e5
        have hb' : s :: (t.2.take (atI t.2 sep) ++ b :: t.2.drop (atI t.2 sep)) = SA ++ sc :: b :: SB := by
          have := ins_begin (m := b) hC.ss
          rw [hC.lsa] at this; exact this
        have hk' : (t.1.set (atI t.2 sep) c').take (atI t.2 sep + 1) ++ m :: (t.1.set (atI t.2 sep) c').drop (atI t.2 sep + 1) = A ++ c' :: m :: B := by
          rw [hset]
          have := ins_after A c' m B
          rw [hC.la] at this; exact this
        have hgoal : lvK d A SA ++ A' ++ (sep, pid) :: (B' ++ lvK d B SB) = lvK d (A ++ c' :: m :: B) (SA ++ sc :: b :: SB) := by
          rw [lvK_app (by rw [hC.la, hC.lsa]), lvK_cons, lvK_cons, ← List.append_assoc (lv d c' sc), e6]; simp
        rw [hgoal, ← hb', ← hk']
        refine splT_ok _ _ s ?_ ?_ ?_ ?_
        · rw [hk']; simp; omega
        · rw [hk']; simp; omega
        · have := congrArg List.length hb'
          simp only [List.length_cons, List.length_append] at this
          rw [hk']
          have l1 := hC.la
          have l2 := hC.lsa
          have l3 := hC.lsb
          simp only [List.length_append, List.length_cons] at this ⊢
          omega
        · rw [hk']
          intro x hx
          rcases List.mem_append.1 hx with hx | hx
          · exact hFA x hx
          · rcases List.mem_cons.1 hx with rfl | hx
            · exact e7
            · rcases List.mem_cons.1 hx with rfl | hx
              · exact e8
              · exact hFB x hx
end Go.Proofs.Ythofkkmnngmafaa
