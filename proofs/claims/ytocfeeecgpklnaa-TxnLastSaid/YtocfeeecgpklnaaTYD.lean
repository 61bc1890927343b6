/- Plain: what TxnOnce keeps. -/
import Derived.Test.YtocfeeecgpklnaaTYB
namespace Go.Proofs.Ytocfeeecgpklnaa
set_option linter.unusedVariables false
set_option linter.unusedSimpArgs false
set_option linter.unusedSectionVars false
open Go.RowKit Go.Shelf

structure Iv (t : Tx) (taken told i : Nat) : Prop where
  ts : t.ts = 7
  kr : Kr t.ops
  len : t.ops.length ≤ 6
  calls : t.calls = taken
  tk : taken ≤ i
  cnt : taken = told + (if t.under then 1 else 0)
  st : t.under = false → t.state = 0 ∨ t.state = 4 ∨ t.state = 5
  ov : t.state = 4 ∨ t.state = 5 → t.under = false

theorem overB_iff (t : Tx) : overB t = true ↔ t.state = 4 ∨ t.state = 5 := by simp [overB]
theorem iv_start : Iv (tx0 7 0) 0 0 0 := ⟨rfl, Kr.nil, Nat.zero_le _, rfl, Nat.le_refl _, rfl, fun _ => Or.inl rfl, fun _ => rfl⟩
theorem Iv.step {t : Tx} {taken told i : Nat} (h : Iv t taken told i) : Iv t taken told (i + 1) := ⟨h.ts, h.kr, h.len, h.calls, by have := h.tk; omega, h.cnt, h.st, h.ov⟩

theorem call_no {t : Tx} {c : Cl} (now : Nat) (h : callE t c ≠ 0) : callT t c now = t ∧ callN t c = 0 := by
  constructor
  · unfold callT; rw [if_neg h]
  · unfold callN; rw [if_neg h]
theorem callE_free {t : Tx} {c : Cl} (h : callE t c = 0) : overB t = false ∧ t.under = false := by
  unfold callE firstI at h
  unfold liveE idleE at h
  cases ho : overB t <;> cases hu : t.under <;> simp [ho, hu] at h ⊢
theorem iv_call {t : Tx} {taken told i : Nat} (h : Iv t taken told i) {c : Cl} (now : Nat) (hc : callE t c = 0) :
    t.under = false ∧ t.state = 0 ∧ callN t c = taken + 1 ∧ Iv (callT t c now) (taken + 1) told (i + 1) := by
  obtain ⟨h1, h2⟩ := callE_free hc
  have h3 : ¬ (t.state = 4 ∨ t.state = 5) := fun k => by rw [(overB_iff t).2 k] at h1; cases h1
  have h0 : t.state = 0 := by rcases h.st h2 with k | k | k; exact k; exact absurd (Or.inl k) h3; exact absurd (Or.inr k) h3
  have hn : callN t c = taken + 1 := by unfold callN; rw [if_pos hc, h.calls]
  have hcn := h.cnt
  rw [h2] at hcn
  simp at hcn
  refine ⟨h2, h0, hn, ?_⟩
  unfold callT
  rw [if_pos hc]
  refine ⟨h.ts, h.kr, h.len, by simp [h.calls], by have := h.tk; omega, by simp; omega, fun k => (by cases k), fun k => ?_⟩
  simp only at k
  rw [h0] at k
  split at k <;> rcases k with k | k <;> cases k
theorem iv_wait {t : Tx} {taken told i : Nat} (h : Iv t taken told i) : Iv (waitT t) taken told (i + 1) ∧ (t.state = 4 ∨ t.state = 5 → (waitT t).state = t.state) := by
  unfold waitT
  split
  · rename_i hc
    refine ⟨⟨h.ts, h.kr, h.len, h.calls, by have := h.tk; omega, h.cnt, fun k => ?_, fun k => ?_⟩, fun k => ?_⟩
    · simp only at k; rw [hc.2] at k; cases k
    · simp at k
    · rcases k with k | k <;> rw [hc.1] at k <;> cases k
  · exact ⟨h.step, fun _ => rfl⟩
theorem iv_ans_no {t : Tx} (now : Nat) (h : answerE t ≠ 0) : answerE t = 5 ∧ answerT t now = t := by
  unfold answerE at h ⊢
  unfold answerT
  split at h
  · exact absurd rfl h
  · rename_i hc; rw [if_neg hc, if_neg hc]; exact ⟨rfl, rfl⟩
theorem iv_ans {t : Tx} {taken told i : Nat} (h : Iv t taken told i) (now : Nat) (ha : answerE t = 0) :
    ¬ (t.state = 4 ∨ t.state = 5) ∧ answerO t oc0 = toldO t oc0 ∧ told + 1 ≤ taken ∧ (answerT t now).state = 0 ∧ Iv (answerT t now) taken (told + 1) (i + 1) := by
  have hc : t.under = true ∧ t.state ≠ 2 ∧ t.state ≠ 3 := by
    unfold answerE at ha
    split at ha
    · assumption
    · cases ha
  have hcn := h.cnt
  rw [hc.1] at hcn
  simp at hcn
  refine ⟨fun k => (by have := h.ov k; rw [hc.1] at this; cases this), by unfold answerO; rw [if_pos hc], by omega, by unfold answerT; rw [if_pos hc], ?_⟩
  unfold answerT
  rw [if_pos hc]
  exact ⟨h.ts, h.kr, h.len, h.calls, by have := h.tk; omega, by simp; omega, fun _ => Or.inl rfl, fun _ => rfl⟩

theorem put_len2 (m : List Rc) (r : Rc) : (ltsO m r.key).length + (gtsO m r.key).length ≤ m.length ∧ (hasB m r.key = true → (ltsO m r.key).length + (gtsO m r.key).length + 1 ≤ m.length) := by
  induction m with
  | nil => simp [ltsO, gtsO, hasB]
  | cons x m ih =>
    rw [show x :: m = [x] ++ m from rfl, lts_app, gts_app, List.length_append, List.length_append, List.length_append]
    rcases SL_tri x.key r.key with h | h | h
    · rw [lts_all (by simpa using h), gts_none (by simpa using SL_asymm h)]
      refine ⟨by simp; omega, fun hh => ?_⟩
      have hne : x.key ≠ r.key := fun k => by rw [k] at h; exact SL_irrefl _ h
      have : hasB m r.key = true := by simpa [hasB, hne] using hh
      have := ih.2 this
      simp; omega
    · rw [lts_none (by simp [h, SL_irrefl]), gts_none (by simp [h, SL_irrefl])]
      refine ⟨by simp; omega, fun hh => ?_⟩
      simp; omega
    · rw [gts_all (by simpa using h), lts_none (by simpa using SL_asymm h)]
      refine ⟨by simp; omega, fun hh => ?_⟩
      have hne : x.key ≠ r.key := fun k => by rw [k] at h; exact SL_irrefl _ h
      have : hasB m r.key = true := by simpa [hasB, hne] using hh
      have := ih.2 this
      simp; omega
theorem put_six {l : List Rc} {r : Rc} (h : l.length ≤ 6) (hr : roomE l r.key = 0) : (putO l r).length ≤ 6 := by
  have h2 := put_len2 l r
  have hroom : roomB l r.key = true := by
    unfold roomE at hr
    cases hb : roomB l r.key
    · rw [hb] at hr; cases hr
    · rfl
  unfold roomB at hroom
  unfold putO
  rw [List.length_append, List.length_cons]
  cases hh : hasB l r.key
  · rw [hh] at hroom; simp at hroom; omega
  · have := h2.2 hh; omega
theorem wroteE_room {t : Tx} {r : Rc} (h : wroteE t r = 0) : roomE t.ops r.key = 0 := by
  unfold wroteE at h
  split at h
  · cases h
  · split at h
    · rename_i k; exact absurd h k
    · exact h
theorem iv_wrote {t : Tx} {taken told i : Nat} (h : Iv t taken told i) (r : Rc) : Iv (wroteT t r) taken told (i + 1) ∧ (wroteT t r).state = t.state ∧ (wroteE t r ≠ 0 → wroteT t r = t) := by
  refine ⟨?_, by unfold wroteT; split <;> rfl, fun k => by unfold wroteT; rw [if_neg k]⟩
  unfold wroteT
  split
  · rename_i hw
    exact ⟨h.ts, put_kr h.kr _, put_six (r := { r with ln := 0 }) h.len (wroteE_room hw), h.calls, by have := h.tk; omega, h.cnt, h.st, h.ov⟩
  · exact h.step
theorem iv_log {t : Tx} {taken told i : Nat} (h : Iv t taken told i) (n : Nat) : Iv (logT t n) taken told (i + 1) ∧ (t.state = 4 ∨ t.state = 5 → (logT t n).state = t.state) := by
  unfold logT
  split
  · rename_i hc
    refine ⟨⟨h.ts, h.kr, h.len, h.calls, by have := h.tk; omega, h.cnt, fun k => ?_, fun k => ?_⟩, fun k => ?_⟩
    · have := h.st k; omega
    · simp at k
    · rcases k with k | k <;> rw [hc] at k <;> cases k
  · exact ⟨h.step, fun _ => rfl⟩
theorem iv_end {t : Tx} {taken told i : Nat} (h : Iv t taken told i) (q : Int) :
    endB t = t.under ∧ (t.under = true → (endO t q).ts = 7 ∧ (endO t q).n = taken) ∧ Iv (endT t q) taken (told + (if t.under then 1 else 0)) (i + 1) ∧ ((endT t q).state = 4 ∨ (endT t q).state = 5) ∧ (t.state = 4 ∨ t.state = 5 → (endT t q).state = t.state) := by
  cases ho : overB t
  · have hb : endB t = t.under := by simp [endB, ho]
    refine ⟨hb, fun k => ?_, ?_, ?_, fun k => ?_⟩
    · unfold endO; rw [hb, k]; exact ⟨h.ts, by simp [h.calls]⟩
    · unfold endT; rw [ho]
      refine ⟨h.ts, h.kr, h.len, h.calls, by have := h.tk; omega, by have := h.cnt; simp; omega, fun _ => ?_, fun _ => rfl⟩
      simp only [Bool.false_eq_true, if_false]
      split <;> simp
    · unfold endT; rw [ho]; simp only [Bool.false_eq_true, if_false]; split <;> simp
    · rw [(overB_iff t).2 k] at ho; cases ho
  · have hs := (overB_iff t).1 ho
    have hu := h.ov hs
    have hb : endB t = false := by simp [endB, ho]
    have hT : endT t q = t := by unfold endT; rw [ho]; rfl
    refine ⟨by rw [hb, hu], fun k => (by rw [hu] at k; cases k), ?_, by rw [hT]; exact hs, fun _ => by rw [hT]⟩
    rw [hT, hu]
    exact h.step
end Go.Proofs.Ytocfeeecgpklnaa
