/- What is done to both, in one; what stays. -/
import Derived.Test.YtocfeeecgpklnaaTYA
namespace Go.Proofs.Ytocfeeecgpklnaa
set_option linter.unusedVariables false
set_option linter.unusedSimpArgs false
set_option linter.unusedSectionVars false
open Go.RowKit Go.Shelf

def doT (t : Tx) (x : Ac) (now : Nat) : Tx :=
  if x.what = 0 ∨ x.what = 1 ∨ x.what = 2 ∨ x.what = 3 then callT t (shC x.c) now
  else if x.what = 4 then waitT t
  else if x.what = 5 ∨ x.what = 6 then answerT t now
  else if x.what = 7 ∨ x.what = 8 then wroteT t (shR x.r)
  else if x.what = 9 then needT t x.n
  else if x.what = 10 then logT t x.n
  else endT t ((x.n % 20 : Nat) : Int)

theorem do_c (w0 w : World) (b b' : Nat) (t : Tx) (x : Ac) (now : Nat) (U : Res) [Keep U] (h : Top w0 (star (txR b t) (star (rxR b' t) U)) w) (hk : Kr t.ops) (hl : t.ops.length ≤ 1000) (hc : t.calls ≤ 1000000) (hx : x.Ok) :
    Calls Try.prog 23 #[.pointer (some ⟨b, 0, none⟩), .pointer (some ⟨b', 0, none⟩), acV x, .int .u64 now] w fun e w' => e = .returned (.bool true) ∧ Top w0 (star (txR b (doT t x now)) (star (rxR b' (doT t x now)) U)) w' := by
  by_cases h1 : x.what = 0 ∨ x.what = 1 ∨ x.what = 2 ∨ x.what = 3
  · rw [show doT t x now = callT t (shC x.c) now by unfold doT; rw [if_pos h1]]
    exact do_call w0 w b b' t x now U h hk hl hc hx h1
  · obtain ⟨xw, xc, xn, xr, xv⟩ := x
    simp only at h1
    obtain ⟨_, _, _, _, ⟨_, k1, k2⟩, k3⟩ := hx
    simp only at k1 k2 k3
    by_cases h4 : xw = 4
    · subst h4
      exact do_wait w0 w b b' t xc xn xr xv now U h
    · by_cases h5 : xw = 5 ∨ xw = 6
      · rcases h5 with rfl | rfl
        · exact do_answer5 w0 w b b' t xc xn xr xv now U h k1 k3
        · exact do_answer6 w0 w b b' t xc xn xr xv now U h k1 k3
      · by_cases h7 : xw = 7 ∨ xw = 8
        · rcases h7 with rfl | rfl
          · exact do_wrote7 w0 w b b' t xc xn xr xv now U h hk hl k1 k2
          · exact do_wrote8 w0 w b b' t xc xn xr xv now U h hk hl k1 k2
        · by_cases h9 : xw = 9
          · subst h9
            exact do_need w0 w b b' t xc xn xr xv now U h
          · by_cases h10 : xw = 10
            · subst h10
              exact do_log w0 w b b' t xc xn xr xv now U h
            · rw [show doT t ⟨xw, xc, xn, xr, xv⟩ now = endT t ((xn % 20 : Nat) : Int) by unfold doT; simp only; rw [if_neg h1, if_neg h4, if_neg h5, if_neg h7, if_neg h9, if_neg h10]]
              exact do_end w0 w b b' t xw xc xn xr xv now U h (by omega)

theorem wroteT_ops (t : Tx) (r : Rc) (h : Kr t.ops) : Kr (wroteT t r).ops ∧ (wroteT t r).ops.length ≤ t.ops.length + 1 ∧ (wroteT t r).calls = t.calls := by
  unfold wroteT
  split
  · exact ⟨put_kr h _, put_len _, rfl⟩
  · exact ⟨h, by omega, rfl⟩
theorem doT_inv (t : Tx) (x : Ac) (now : Nat) (h : Kr t.ops) : Kr (doT t x now).ops ∧ (doT t x now).ops.length ≤ t.ops.length + 1 ∧ (doT t x now).calls ≤ t.calls + 1 := by
  have key : ∀ u : Tx, u.ops = t.ops → u.calls ≤ t.calls + 1 → Kr u.ops ∧ u.ops.length ≤ t.ops.length + 1 ∧ u.calls ≤ t.calls + 1 := fun u e k => ⟨e ▸ h, by rw [e]; omega, k⟩
  unfold doT
  repeat' split
  · exact key _ (callT_ops _ _ _) (callT_calls _ _ _)
  · exact key _ (by unfold waitT; split <;> rfl) (by unfold waitT; split <;> simp)
  · exact key _ (answerT_ops _ _) (by rw [answerT_calls]; omega)
  · obtain ⟨a, b, c⟩ := wroteT_ops t (shR x.r) h
    exact ⟨a, b, by omega⟩
  · exact key _ rfl (by simp [needT])
  · exact key _ (by unfold logT; split <;> rfl) (by unfold logT; split <;> simp)
  · exact key _ (by unfold endT; split <;> rfl) (by unfold endT; split <;> simp)
end Go.Proofs.Ytocfeeecgpklnaa
