/- TxnKnown: what it asks, in plain words; the calls as they are met. -/
import Derived.Test.YtocfeeecgpklnaaTYK
import Derived.Test.YtocfeeecgpklnaaTXZ
import Derived.Test.YtocfeeecgpklnaaTYG
namespace Go.Proofs.Ytocfeeecgpklnaa
set_option linter.unusedVariables false
set_option linter.unusedSimpArgs false
set_option linter.unusedSectionVars false
open Go.RowKit Go.Shelf

abbrev kLong : ByteArray := ⟨#[49, 50, 51, 52, 53, 54, 55, 56, 57, 48, 49, 50, 51, 52, 53, 54, 55]⟩
abbrev kLonger : ByteArray := ⟨#[49, 50, 51, 52, 53, 54, 55, 56, 57, 48, 49, 50, 51, 52, 53, 54, 55, 56, 57, 48, 49, 50, 51, 52, 53]⟩
abbrev kRead : Cl := ⟨1, 5, ⟨#[97]⟩, ⟨#[]⟩, ⟨#[]⟩⟩
abbrev q0 : Tx := tx0 5 0
/-- The calls that are refused. -/
abbrev refs : List (Cl × Int) := [
  (⟨0, 5, ⟨#[]⟩, ⟨#[]⟩, ⟨#[]⟩⟩, 2), (⟨9, 5, ⟨#[]⟩, ⟨#[]⟩, ⟨#[]⟩⟩, 2), (⟨-1, 5, ⟨#[]⟩, ⟨#[]⟩, ⟨#[]⟩⟩, 2), (⟨1, 4, ⟨#[97]⟩, ⟨#[]⟩, ⟨#[]⟩⟩, 2), (⟨1, 5, ⟨#[]⟩, ⟨#[]⟩, ⟨#[]⟩⟩, 2),
  (⟨1, 5, ⟨#[97]⟩, ⟨#[98]⟩, ⟨#[]⟩⟩, 2), (⟨4, 5, ⟨#[97]⟩, ⟨#[]⟩, ⟨#[98]⟩⟩, 2), (⟨5, 5, ⟨#[97]⟩, ⟨#[]⟩, ⟨#[]⟩⟩, 2), (⟨6, 5, ⟨#[]⟩, ⟨#[]⟩, ⟨#[97]⟩⟩, 2), (⟨2, 5, ⟨#[]⟩, ⟨#[]⟩, ⟨#[97]⟩⟩, 2),
  (⟨1, 5, kLong, ⟨#[]⟩, ⟨#[]⟩⟩, 3), (⟨2, 5, ⟨#[]⟩, kLong, ⟨#[]⟩⟩, 3), (⟨3, 5, ⟨#[97]⟩, ⟨#[]⟩, kLonger⟩, 3)]
theorem refs_all : (refs.all fun x => decide (callE q0 x.1 = x.2) && decide (x.2 ≠ 0)) = true := by decide +kernel
theorem refs_said {i : Nat} {x : Cl × Int} (h : refs[i]? = some x) : callE q0 x.1 = x.2 ∧ ((callN q0 x.1 : Nat) : Int) = 0 ∧ callT q0 x.1 1 = q0 := by
  have h1 := List.all_eq_true.1 refs_all x (List.mem_of_getElem? h)
  simp only [Bool.and_eq_true, decide_eq_true_eq] at h1
  have h2 : callE q0 x.1 ≠ 0 := by rw [h1.1]; exact h1.2
  exact ⟨h1.1, by unfold callN; rw [if_neg h2]; rfl, if_neg h2⟩

abbrev vB : ByteArray := ⟨#[118]⟩
/-- Its state behind the answered read, with some operations. -/
abbrev qw (ops : List Rc) : Tx := ⟨5, 2, 0, 0, 1, false, kRead, ops⟩
def rk (i : Nat) : Rc := ⟨⟨#[UInt8.ofNat (102 - i)]⟩, 7, false, vB⟩
def opsK (i : Nat) : List Rc := (List.range i).map fun j => ⟨⟨#[UInt8.ofNat (103 - i + j)]⟩, 0, false, vB⟩
abbrev q1 : Tx := ⟨5, 1, 0, 0, 1, true, kRead, []⟩
abbrev q2 : Tx := ⟨5, 1, 0, 1, 1, true, kRead, []⟩
abbrev ops6 : List Rc := [⟨⟨#[97]⟩, 0, false, vB⟩, ⟨⟨#[98]⟩, 0, false, vB⟩, ⟨⟨#[99]⟩, 0, false, vB⟩, ⟨⟨#[100]⟩, 0, false, vB⟩, ⟨⟨#[101]⟩, 0, false, vB⟩, ⟨⟨#[102]⟩, 0, false, vB⟩]
abbrev ops7 : List Rc := [⟨⟨#[97]⟩, 0, true, ⟨#[]⟩⟩, ⟨⟨#[98]⟩, 0, false, vB⟩, ⟨⟨#[99]⟩, 0, false, vB⟩, ⟨⟨#[100]⟩, 0, false, vB⟩, ⟨⟨#[101]⟩, 0, false, vB⟩, ⟨⟨#[102]⟩, 0, false, vB⟩]
abbrev kDel : Cl := ⟨4, 5, ⟨#[99]⟩, ⟨#[]⟩, ⟨#[]⟩⟩
abbrev kCom : Cl := ⟨5, 5, ⟨#[]⟩, ⟨#[]⟩, ⟨#[]⟩⟩
abbrev kAb : Cl := ⟨6, 5, ⟨#[]⟩, ⟨#[]⟩, ⟨#[]⟩⟩
abbrev kWz : Cl := ⟨3, 5, ⟨#[122]⟩, ⟨#[]⟩, ⟨#[]⟩⟩
abbrev q5 : Tx := ⟨5, 3, 0, 0, 2, true, kDel, ops6⟩
abbrev q6 : Tx := ⟨5, 3, 0, 0, 2, true, kDel, ops7⟩
abbrev q7 : Tx := ⟨5, 3, 0, 0, 2, false, kDel, ops7⟩
abbrev q8 : Tx := ⟨5, 4, 0, 2, 3, true, kCom, ops7⟩
abbrev q9 : Tx := ⟨5, 4, 9, 3, 3, true, kCom, ops7⟩
abbrev q10 : Tx := ⟨5, 4, 12, 3, 3, true, kCom, ops7⟩
abbrev q11 : Tx := ⟨5, 4, 12, 4, 3, false, kCom, ops7⟩
abbrev kCom1 : Cl := ⟨5, 1, ⟨#[]⟩, ⟨#[]⟩, ⟨#[]⟩⟩
abbrev a1 : Tx := ⟨1, 0, 0, 2, 1, true, kCom1, []⟩
abbrev a2 : Tx := ⟨1, 0, 0, 5, 1, false, kCom1, []⟩
abbrev b2 : Tx := ⟨2, 0, 0, 5, 0, false, ⟨0, 0, ⟨#[]⟩, ⟨#[]⟩, ⟨#[]⟩⟩, []⟩

theorem kq1 : callE q0 kRead = 0 ∧ ((callN q0 kRead : Nat) : Int) = 1 ∧ callT q0 kRead 1 = q1 := by refine ⟨?_, ?_, ?_⟩ <;> kernel_rfl
theorem kq2 : waitT q1 = q2 := by kernel_rfl
theorem kq2b : callE q2 kRead = 12 ∧ ((callN q2 kRead : Nat) : Int) = 0 ∧ callT q2 kRead 2 = q2 := by refine ⟨?_, ?_, ?_⟩ <;> kernel_rfl
abbrev oIn : Oc := ⟨9, 9, 0, true, ⟨#[120]⟩, none, 0, 0⟩
abbrev oOut : Oc := ⟨5, 1, 0, true, ⟨#[120]⟩, none, 0, 0⟩
theorem kq3 : answerE q2 = 0 ∧ answerO q2 oIn = oOut ∧ answerT q2 2 = qw [] := by refine ⟨?_, ?_, ?_⟩ <;> kernel_rfl
theorem kq3b : answerE (qw []) = 5 ∧ answerO (qw []) oc0 = oc0 ∧ answerT (qw []) 2 = qw [] := by refine ⟨?_, ?_, ?_⟩ <;> kernel_rfl
theorem kqi : idleB (qw []) 65 = false ∧ idleB (qw []) 66 = true := by refine ⟨?_, ?_⟩ <;> kernel_rfl
theorem kqw : ∀ i, i < 6 → wroteE (qw (opsK i)) (rk i) = 0 ∧ wroteT (qw (opsK i)) (rk i) = qw (opsK (i + 1)) := by
  intro i hi
  rcases (by omega : i = 0 ∨ i = 1 ∨ i = 2 ∨ i = 3 ∨ i = 4 ∨ i = 5) with rfl | rfl | rfl | rfl | rfl | rfl <;> refine ⟨?_, ?_⟩ <;> kernel_rfl
theorem kops : opsK 0 = [] ∧ opsK 6 = ops6 := by refine ⟨?_, ?_⟩ <;> kernel_rfl
theorem kr_of {l : List Rc} (h : (decide (l.Pairwise fun x y => x.key.data.toList < y.key.data.toList)) = true) : Kr l := of_decide_eq_true h
theorem kr_opsK : ∀ i, i < 7 → Kr (opsK i) ∧ (opsK i).length ≤ 1000 := by
  intro i hi
  refine ⟨?_, by simp [opsK]; omega⟩
  rcases (by omega : i = 0 ∨ i = 1 ∨ i = 2 ∨ i = 3 ∨ i = 4 ∨ i = 5 ∨ i = 6) with rfl | rfl | rfl | rfl | rfl | rfl | rfl <;> exact kr_of (by decide +kernel)
theorem kr6 : Kr ops6 := kr_of (by decide +kernel)
theorem kr7 : Kr ops7 := kr_of (by decide +kernel)
theorem kq5a : callE (qw ops6) kWz = 11 ∧ ((callN (qw ops6) kWz : Nat) : Int) = 0 ∧ callT (qw ops6) kWz 3 = qw ops6 := by refine ⟨?_, ?_, ?_⟩ <;> kernel_rfl
theorem kq5 : callE (qw ops6) kDel = 0 ∧ ((callN (qw ops6) kDel : Nat) : Int) = 2 ∧ callT (qw ops6) kDel 3 = q5 := by refine ⟨?_, ?_, ?_⟩ <;> kernel_rfl
abbrev rZ : Rc := ⟨⟨#[122]⟩, 0, false, ⟨#[]⟩⟩
abbrev rA : Rc := ⟨⟨#[97]⟩, 0, false, ⟨#[]⟩⟩
abbrev rDel : Rc := ⟨⟨#[97]⟩, 0, true, ⟨#[]⟩⟩
abbrev rNo : Rc := ⟨⟨#[]⟩, 0, false, ⟨#[]⟩⟩
theorem kq6a : wroteE q5 rZ = 11 ∧ wroteT q5 rZ = q5 := by refine ⟨?_, ?_⟩ <;> kernel_rfl
theorem kq6 : wroteE q5 rDel = 0 ∧ wroteT q5 rDel = q6 := by refine ⟨?_, ?_⟩ <;> kernel_rfl
theorem kq6b : wroteE q6 rNo = 2 ∧ wroteT q6 rNo = q6 := by refine ⟨?_, ?_⟩ <;> kernel_rfl
theorem kq6i : idleB q6 999 = false := by kernel_rfl
theorem kq7 : answerE q6 = 0 ∧ answerT q6 3 = q7 := by refine ⟨?_, ?_⟩ <;> kernel_rfl
theorem kq8 : callE q7 kCom = 0 ∧ ((callN q7 kCom : Nat) : Int) = 3 ∧ callT q7 kCom 4 = q8 := by refine ⟨?_, ?_, ?_⟩ <;> kernel_rfl
theorem kq8i : idleB q8 999 = false := by kernel_rfl
theorem kq9 : logE q8 = 0 ∧ logT q8 9 = q9 := by refine ⟨?_, ?_⟩ <;> kernel_rfl
theorem kq9b : logE q9 = 2 ∧ logT q9 9 = q9 := by refine ⟨?_, ?_⟩ <;> kernel_rfl
theorem kq9c : ((max q9.need 3 : Nat) : Int) = 9 ∧ needT q9 3 = q9 := by refine ⟨?_, ?_⟩ <;> kernel_rfl
theorem kq10 : ((max q9.need 12 : Nat) : Int) = 12 ∧ needT q9 12 = q10 := by refine ⟨?_, ?_⟩ <;> kernel_rfl
theorem kq10b : answerE q10 = 5 ∧ answerO q10 oc0 = oc0 ∧ answerT q10 4 = q10 := by refine ⟨?_, ?_, ?_⟩ <;> kernel_rfl
abbrev oEnd : Oc := ⟨5, 3, 0, false, ⟨#[]⟩, none, 0, 0⟩
theorem kq11 : endB q10 = true ∧ endO q10 0 = oEnd ∧ endT q10 0 = q11 := by refine ⟨?_, ?_, ?_⟩ <;> kernel_rfl
theorem kq11b : endB q11 = false ∧ endO q11 15 = oc0 ∧ endT q11 15 = q11 := by refine ⟨?_, ?_, ?_⟩ <;> kernel_rfl
theorem kq11c : callE q11 kAb = 13 ∧ ((callN q11 kAb : Nat) : Int) = 0 ∧ callT q11 kAb 5 = q11 := by refine ⟨?_, ?_, ?_⟩ <;> kernel_rfl
theorem kq11d : wroteE q11 rA = 13 ∧ wroteT q11 rA = q11 := by refine ⟨?_, ?_⟩ <;> kernel_rfl
theorem ka1 : callE (tx0 1 0) kCom1 = 0 ∧ ((callN (tx0 1 0) kCom1 : Nat) : Int) = 1 ∧ callT (tx0 1 0) kCom1 0 = a1 := by refine ⟨?_, ?_, ?_⟩ <;> kernel_rfl
abbrev oA : Oc := ⟨1, 1, 0, false, ⟨#[]⟩, none, 0, 0⟩
theorem ka2 : endB a1 = true ∧ endO a1 0 = oA ∧ endT a1 0 = a2 := by refine ⟨?_, ?_, ?_⟩ <;> kernel_rfl
theorem kb2 : endB (tx0 2 0) = false ∧ endO (tx0 2 0) 0 = oc0 ∧ endT (tx0 2 0) 0 = b2 := by refine ⟨?_, ?_, ?_⟩ <;> kernel_rfl

section
variable {w0 w : World} {U : Res} [Keep U] {b : Nat} {t t' : Tx} (h : Top w0 (star (txR b t) U) w)
include h
theorem call_k (c : Cl) (now : Nat) {e n : Int} (hk : Kr t.ops) (hl : t.ops.length ≤ 1000) (hc : t.calls ≤ 1000000) (hs : callE t c = e ∧ ((callN t c : Nat) : Int) = n ∧ callT t c now = t') :
    Calls Try.prog 12 #[.pointer (some ⟨b, 0, none⟩), clV c, .int .u64 now] w fun x w' => x = .returned (.tuple #[.int .i64 n, .int .i64 e]) ∧ Top w0 (star (txR b t') U) w' := by
  obtain ⟨rfl, rfl, rfl⟩ := hs
  exact h.call fun L hL => call_c w b t c now L hL hk hl hc
theorem wait_k (hs : waitT t = t') : Calls Try.prog 19 #[.pointer (some ⟨b, 0, none⟩)] w fun x w' => x = .returned (.tuple #[]) ∧ Top w0 (star (txR b t') U) w' := by
  subst hs
  exact h.call fun L hL => wait_c w b t L hL
theorem answer_k (o : Oc) (now : Nat) {e : Int} {o' : Oc} (hs : answerE t = e ∧ answerO t o = o' ∧ answerT t now = t') :
    Calls Try.prog 20 #[.pointer (some ⟨b, 0, none⟩), ocV o, .int .u64 now] w fun x w' => x = .returned (.tuple #[ocV o', .int .i64 e]) ∧ Top w0 (star (txR b t') U) w' := by
  obtain ⟨rfl, rfl, rfl⟩ := hs
  exact h.call fun L hL => answer_c w b t o now L hL
theorem need_k (n : Nat) {m : Int} (hs : ((max t.need n : Nat) : Int) = m ∧ needT t n = t') : Calls Try.prog 26 #[.pointer (some ⟨b, 0, none⟩), .int .u64 n] w fun x w' => x = .returned (.int .u64 m) ∧ Top w0 (star (txR b t') U) w' := by
  obtain ⟨rfl, rfl⟩ := hs
  exact h.call fun L hL => need_c w b t n L hL
theorem log_k (n : Nat) {e : Int} (hs : logE t = e ∧ logT t n = t') : Calls Try.prog 21 #[.pointer (some ⟨b, 0, none⟩), .int .u64 n] w fun x w' => x = .returned (.int .i64 e) ∧ Top w0 (star (txR b t') U) w' := by
  obtain ⟨rfl, rfl⟩ := hs
  exact h.call fun L hL => log_c w b t n L hL
theorem end_k (q : Int) {z : Bool} {o' : Oc} (hs : endB t = z ∧ endO t q = o' ∧ endT t q = t') :
    Calls Try.prog 22 #[.pointer (some ⟨b, 0, none⟩), .int .i64 q] w fun x w' => x = .returned (.tuple #[ocV o', .bool z]) ∧ Top w0 (star (txR b t') U) w' := by
  obtain ⟨rfl, rfl, rfl⟩ := hs
  exact h.call fun L hL => end_c w b t q L hL
theorem wrote_k (r : Rc) {e : Int} (hk : Kr t.ops) (hl : t.ops.length ≤ 1000) (hs : wroteE t r = e ∧ wroteT t r = t') :
    Calls Try.prog 16 #[.pointer (some ⟨b, 0, none⟩), rcV r] w fun x w' => x = .returned (.int .i64 e) ∧ Top w0 (star (txR b t') U) w' := by
  obtain ⟨rfl, rfl⟩ := hs
  exact h.call fun L hL => wrote_c w b t r L hL hk hl
theorem state_k {s : Int} (hs : (t.state : Int) = s) : Calls Try.prog 14 #[.pointer (some ⟨b, 0, none⟩)] w fun x w' => x = .returned (.int .i64 s) ∧ w = w' := by
  subst hs
  obtain ⟨L, hL⟩ := h.res
  exact state_c w b t L hL
theorem ts_k {s : Int} (hs : (t.ts : Int) = s) : Calls Try.prog 24 #[.pointer (some ⟨b, 0, none⟩)] w fun x w' => x = .returned (.int .u64 s) ∧ w = w' := by
  subst hs
  obtain ⟨L, hL⟩ := h.res
  exact ts_c w b t L hL
theorem idle_k (now : Nat) (hn : now < 18446744073709551616) {z : Bool} (hs : idleB t now = z) : Calls Try.prog 28 #[.pointer (some ⟨b, 0, none⟩), .int .u64 now] w fun x w' => x = .returned (.bool z) ∧ w = w' := by
  subst hs
  obtain ⟨L, hL⟩ := h.res
  exact idle_c w b t now L hL hn
theorem pending_k {c : Cl} {z : Bool} (hs : (if t.under then t.call else cl0) = c ∧ t.under = z) : Calls Try.prog 18 #[.pointer (some ⟨b, 0, none⟩)] w fun x w' => x = .returned (.tuple #[clV c, .bool z]) ∧ Top w0 (star (txR b t) U) w' := by
  obtain ⟨rfl, rfl⟩ := hs
  obtain ⟨L, hL⟩ := h.res
  exact h.read (pending_c w b t L hL)
/-- The operations: a slice that is its own. -/
theorem ops_k (hl : t.ops.length ≤ 1000) : Calls Try.prog 17 #[.pointer (some ⟨b, 0, none⟩)] w fun x w' => ∃ v, x = .returned v ∧ Lx 4 rcC w' v t.ops ∧ Top w0 (star (txR b t) U) w' := by
  obtain ⟨L, hL⟩ := h.res
  refine (ops_c w b t L hL hl).mono ?_
  rintro e w' ⟨v, L', rfl, h1, h2, _⟩
  exact ⟨v, rfl, Own.lx rc_lays h1, h.mod h2⟩
theorem ops_r (hl : t.ops.length ≤ 1000) (hn : 0 < t.ops.length) : Calls Try.prog 17 #[.pointer (some ⟨b, 0, none⟩)] w fun x w' => ∃ g cap, x = .returned (.slice (some ⟨g, 0, none⟩) t.ops.length cap) ∧
    Top w0 (star (txR b t) (star (rowR 32 4 (.slice (some ⟨g, 0, none⟩) t.ops.length cap) t.ops.length (flat rcC t.ops)) U)) w' := by
  obtain ⟨L, hL⟩ := h.res
  refine (ops_c w b t L hL hl).mono ?_
  rintro e w' ⟨v, L', rfl, h1, h2, h3⟩
  obtain ⟨a, cap, rfl, _, _, hg⟩ := h1.val
  obtain ⟨g, rfl, _⟩ := hg hn
  exact ⟨g, cap, rfl, (h.made (R' := rowR 32 4 (.slice (some ⟨g, 0, none⟩) t.ops.length cap) t.ops.length (flat rcC t.ops)) h1 h2 h3).swap⟩
end
theorem row_cells {w0 w : World} {A U : Res} {E : TypeId} {sz g n cap : Nat} {xs : List Value} (h : Top w0 (star A (star (rowR E sz (.slice (some ⟨g, 0, none⟩) n cap) n xs) U)) w) (hn : 0 < n) :
    g < w.heap.size ∧ n ≤ cap ∧ cap ≤ 9223372036854775807 ∧ ∀ j, j < n * sz → w.cell? ⟨g, j, none⟩ = xs[j]? := by
  obtain ⟨L, hL⟩ := h.swap.res
  obtain ⟨a, cap', e, h1, h2, hg⟩ := Own.val hL
  simp only [Value.slice.injEq] at e
  obtain ⟨rfl, _, rfl⟩ := e
  obtain ⟨g', e, rfl, hc⟩ := hg hn
  simp only [Option.some.injEq, Addr.mk.injEq, and_true] at e
  subst e
  exact ⟨Own.lt hL _ (by simp), h1, h2, hc⟩
end Go.Proofs.Ytocfeeecgpklnaa
