/- Plain: a fence: its tree, put in and taken out; how many leaves a tree may have. -/
import Derived.Test.YthofkkmnngmafaaF3
namespace Go.Proofs.Ythofkkmnngmafaa
set_option linter.unusedVariables false
set_option linter.unusedSimpArgs false
set_option linter.unusedSectionVars false

structure Fc where
  d : Nat
  t : Tr d
abbrev Fc.lv (f : Fc) : List Lf := Proofs.Ythofkkmnngmafaa.lv f.d f.t mt

def insF (f : Fc) (sep : ByteArray) (pid : Nat) : Fc := match insT f.d f.t sep pid with
  | (t, none) => ⟨f.d, t⟩
  | (t, some (m, b)) => ⟨f.d + 1, ([t, m], [b])⟩
def remF : Fc → ByteArray → Fc
  | ⟨0, t⟩, _ => ⟨0, t⟩
  | ⟨d + 1, t⟩, sep => match (remT d t sep).1.1 with
    | [x] => ⟨d, x⟩
    | _ => ⟨d + 1, (remT d t sep).1⟩
def putL (l : List Lf) (sep : ByteArray) (pid : Nat) : List Lf := (l.filter fun x => decide (SL x.1 sep)) ++ (sep, pid) :: l.filter fun x => decide (SL sep x.1)
theorem putL_cut {A B : List Lf} {sep : ByteArray} {pid : Nat} (hA : ∀ x ∈ A, SL x.1 sep) (hB : ∀ x ∈ B, SL sep x.1) : putL (A ++ B) sep pid = A ++ (sep, pid) :: B := by
  have e1 : A.filter (fun x => decide (SL x.1 sep)) = A := List.filter_eq_self.2 (fun x hx => by simpa using hA x hx)
  have e2 : B.filter (fun x => decide (SL x.1 sep)) = [] := List.filter_eq_nil_iff.2 (fun x hx => by simpa using SL_asymm (hB x hx))
  have e3 : A.filter (fun x => decide (SL sep x.1)) = [] := List.filter_eq_nil_iff.2 (fun x hx => by simpa using SL_asymm (hA x hx))
  have e4 : B.filter (fun x => decide (SL sep x.1)) = B := List.filter_eq_self.2 (fun x hx => by simpa using hB x hx)
  unfold putL
  rw [List.filter_append, List.filter_append, e1, e2, e3, e4]; simp

/-- A good fence. -/
structure Good (f : Fc) : Prop where
  fan : Fan f.d f.t
  srt : SrtL f.lv
theorem mt_SL {s : ByteArray} (h : s ≠ mt) : SL mt s := by
  rcases SL_tri mt s with k | k | k
  · exact k
  · exact absurd k.symm h
  · exact absurd k (by simp [SL, mt])
theorem SL_mt (s : ByteArray) : ¬ SL s mt := by simp [SL, mt]
theorem Good.head {f : Fc} (h : Good f) : ∃ p l, f.lv = (mt, p) :: l := lv_head f.d f.t mt h.fan

theorem insF_ok {f : Fc} (h : Good f) {sep : ByteArray} (pid : Nat) (h0 : sep ≠ mt) (hn : ∀ x ∈ f.lv, x.1 ≠ sep) : (insF f sep pid).lv = putL f.lv sep pid ∧ Good (insF f sep pid) ∧ ∃ A B, A ≠ [] ∧ f.lv = A ++ B ∧ (∀ x ∈ A, SL x.1 sep) ∧ ∀ x ∈ B, SL sep x.1 := by
  obtain ⟨A, B, e1, e2, e3, e4, e5⟩ := insT_ok f.d f.t mt sep pid h.fan h.srt (mt_SL h0) hn
  have e6 := putL_cut (pid := pid) e3 e4
  have hs : SrtL (A ++ (sep, pid) :: B) := by
    have := h.srt
    rw [Fc.lv, e1] at this
    obtain ⟨a1, a2, a3⟩ := List.pairwise_append.1 this
    refine List.pairwise_append.2 ⟨a1, List.pairwise_cons.2 ⟨e4, a2⟩, fun x hx y hy => ?_⟩
    rcases List.mem_cons.1 hy with rfl | hy
    · exact e3 x hx
    · exact a3 x hx y hy
  have key : (insF f sep pid).lv = A ++ (sep, pid) :: B ∧ Fan (insF f sep pid).d (insF f sep pid).t := by
    unfold insF
    generalize insT f.d f.t sep pid = r at e5 ⊢
    obtain ⟨t, o⟩ := r
    cases o with
    | none => exact e5
    | some mb =>
      obtain ⟨m, b⟩ := mb
      obtain ⟨q1, q2, q3⟩ := e5
      refine ⟨?_, by simp, by simp, by simp, ?_⟩
      · show lvK f.d [t, m] [mt, b] = _
        rw [lvK_cons, lvK_cons, ← List.append_assoc, q1]; simp [lvK]
      · intro x hx
        rcases List.mem_cons.1 hx with rfl | hx
        · exact q2
        · rcases List.mem_cons.1 hx with rfl | hx
          · exact q3
          · cases hx
  refine ⟨?_, ⟨key.2, by have := key.1; unfold Fc.lv at this ⊢; rw [this]; exact hs⟩, A, B, e2, e1, e3, e4⟩
  rw [key.1, ← e6, ← e1]

theorem remF_ok {f : Fc} (h : Good f) {sep : ByteArray} (h0 : sep ≠ mt) (hn : ∃ p, (sep, p) ∈ f.lv) : (remF f sep).lv = without f.lv sep ∧ Good (remF f sep) ∧ 0 < f.d := by
  obtain ⟨d, t⟩ := f
  cases d with
  | zero =>
    obtain ⟨p, hp⟩ := hn
    have : (sep, p) ∈ [(mt, t)] := hp
    simp at this
    exact absurd this.1 h0
  | succ d =>
    obtain ⟨r1, r2, r3⟩ := remT_ok d t mt sep h.fan h.srt hn
    have hb : (remT d t sep).2 = mt := r3.2 h0
    rw [hb] at r1
    unfold begT at r1
    rw [if_pos rfl] at r1
    have hs : SrtL (without (lv (d + 1) t mt) sep) := h.srt.filter _
    have key : (remF ⟨d + 1, t⟩ sep).lv = without (lv (d + 1) t mt) sep ∧ Fan (remF ⟨d + 1, t⟩ sep).d (remF ⟨d + 1, t⟩ sep).t := by
      unfold remF
      dsimp only
      obtain ⟨q1, q2, q3, q4⟩ := r2
      generalize remT d t sep = r at r1 q1 q2 q3 q4 ⊢
      obtain ⟨⟨ks, ss⟩, b⟩ := r
      dsimp only at r1 q1 q2 q3 q4 ⊢
      cases ks with
      | nil => simp at q1
      | cons x ks =>
        cases ks with
        | nil =>
          refine ⟨?_, q4 x (by simp)⟩
          rw [← r1]
          show lv d x mt = lvK d [x] (mt :: ss)
          rw [lvK_cons]; simp [lvK]
        | cons y ks => exact ⟨r1, by simp, q2, q3, q4⟩
    exact ⟨key.1, ⟨key.2, by have := key.1; unfold Fc.lv at this ⊢; rw [this]; exact hs⟩, Nat.succ_pos _⟩

/-- How many leaves. -/
theorem lv_count : ∀ (d : Nat) (t : Tr d) (s : ByteArray), Fan d t → 2 ^ d ≤ (lv d t s).length ∧ (lv d t s).length ≤ 5 ^ d
  | 0, p, s, _ => by simp [lv]
  | d + 1, t, s, h => by
    obtain ⟨h1, h2, h3, h4⟩ := h
    have key : ∀ (ks : List (Tr d)) (bs : List ByteArray), ks.length = bs.length → (∀ x ∈ ks, Fan d x) → ks.length * 2 ^ d ≤ (lvK d ks bs).length ∧ (lvK d ks bs).length ≤ ks.length * 5 ^ d := by
      intro ks
      induction ks with
      | nil => intro bs _ _; simp [lvK]
      | cons c ks ih =>
        intro bs hb hF
        cases bs with
        | nil => simp at hb
        | cons b bs =>
          obtain ⟨i1, i2⟩ := ih bs (by simpa using hb) (fun x hx => hF x (by simp [hx]))
          obtain ⟨c1, c2⟩ := lv_count d c b (hF c (by simp))
          rw [lvK_cons, List.length_append, List.length_cons, Nat.succ_mul, Nat.succ_mul]
          omega
    obtain ⟨k1, k2⟩ := key t.1 (s :: t.2) (by simpa using h3) h4
    rw [lv_node, Nat.pow_succ, Nat.pow_succ]
    refine ⟨Nat.le_trans ?_ k1, Nat.le_trans k2 ?_⟩
    · rw [Nat.mul_comm]; exact Nat.mul_le_mul_right _ h1
    · rw [Nat.mul_comm (5 ^ d)]; exact Nat.mul_le_mul_right _ h2
end Go.Proofs.Ythofkkmnngmafaa
