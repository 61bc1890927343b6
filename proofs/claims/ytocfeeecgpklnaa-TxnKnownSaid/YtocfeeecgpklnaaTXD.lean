/- A transaction in memory; unless, live, first. -/
import Derived.Test.YtocfeeecgpklnaaTXC
namespace Go.Proofs.Ytocfeeecgpklnaa
set_option linter.unusedVariables false
set_option linter.unusedSimpArgs false
set_option linter.unusedSectionVars false
open Go.RowKit

structure Cl where
  kind : Int
  ts : Nat
  key : ByteArray
  hi : ByteArray
  val : ByteArray
/-- A transaction's state. -/
structure Tx where
  ts : Nat
  at_ : Nat
  need : Nat
  state : Nat
  calls : Nat
  under : Bool
  call : Cl
  ops : List Rc

def txC (t : Tx) (v : Value) : Array Value := #[.int .u64 t.ts, .int .u64 t.at_, .int .u64 t.need, .int .i64 t.state, .int .i64 t.calls, .bool t.under, .int .i64 t.call.kind, .int .u64 t.call.ts, .string t.call.key, .string t.call.hi, .string t.call.val, v]
abbrev clV (c : Cl) : Value := .agg #[.int .i64 c.kind, .int .u64 c.ts, .string c.key, .string c.hi, .string c.val]
abbrev clC (c : Cl) : Array Value := #[.int .i64 c.kind, .int .u64 c.ts, .string c.key, .string c.hi, .string c.val]

/-- The program's transaction. -/
def txR (b : Nat) (t : Tx) : Res := fun w L => ∃ v M, Blk w b (txC t v) 71 ∧ Own w 32 4 v t.ops.length (flat rcC t.ops) M ∧ b ∉ M ∧ L = b :: M
instance (b : Nat) (t : Tx) : Keep (txR b t) where
  lt := by
    rintro w L ⟨v, M, h1, h2, _, rfl⟩ k hk
    rcases List.mem_cons.1 hk with rfl | hk
    · exact h1.lt
    · exact h2.lt k hk
  mod := by
    rintro w w' L M ⟨v, N, h1, h2, h3, rfl⟩ hm hd
    exact ⟨v, N, hm.blk h1 (hd _ (by simp)), h2.mod hm (fun k hk => hd k (by simp [hk])), h3, rfl⟩

theorem Says.here {w : World} {L : List Nat} {r : Value} {R : Res} {e : Ending} (he : e = .returned r) (h : R w L) : Says w L r R e w := ⟨he, L, h, Mod.refl _ _, fun k hk => Or.inl hk⟩
theorem Says.next {w w1 : World} {L L1 : List Nat} {r : Value} {R : Res} {e : Ending} {w' : World} (hm : Mod L w w1) (hf : ∀ k ∈ L1, k ∈ L ∨ w.heap.size ≤ k) (h : Says w1 L1 r R e w') : Says w L r R e w' := by
  obtain ⟨rfl, L2, h2, m2, f2⟩ := h
  refine ⟨rfl, L2, h2, hm.trans m2 (fun x hx _ => hx) (fun x hx hlt => (hf x hx).resolve_right (by omega)), fun k hk => ?_⟩
  rcases f2 k hk with h | h
  · exact hf k h
  · right; have := hm.size; omega

set_option maxRecDepth 100000 in
theorem unless_c (z : Bool) (q : Int) (w : World) : Calls Try.prog 31 #[.bool z, .int .i64 q] w fun e w' => e = .returned (.int .i64 (if z then 0 else q)) ∧ w = w' := by
  cases z
  · go_enter Try.func31, Try.ntmps31
    go_wp2
    go_ret
    exact ⟨rfl, rfl⟩
  · go_enter Try.func31, Try.ntmps31
    go_wp2
    go_ret
    exact ⟨rfl, rfl⟩

def overB (t : Tx) : Bool := t.state == 4 || t.state == 5
def liveE (t : Tx) : Int := if overB t then 13 else 0
set_option maxRecDepth 100000 in
theorem live_c (w : World) (b : Nat) (t : Tx) (L : List Nat) (h : txR b t w L) : Calls Try.prog 38 #[.pointer (some ⟨b, 0, none⟩)] w fun e w' => e = .returned (.int .i64 (liveE t)) ∧ Mod [] w w' := by
  obtain ⟨v, M, hb, ho, hbM, rfl⟩ := h
  have hbl := hb.lt
  have b3 : w.cell? ⟨b, 3, none⟩ = some (.int .i64 t.state) := hb.cell 3
  by_cases h4 : t.state = 4
  · rw [h4] at b3
    have e : Hid (liveE t = 13) := by show _ = _; simp [liveE, overB, h4]
    clear h4
    go_enter Try.func38, Try.ntmps38
    go_wp2_with (go_at_call 31; refine (unless_c _ _ _).mono ?_; rintro e w' ⟨rfl, rfl⟩)
    go_ret
    exact ⟨by rw [e.out]; rfl, Mod.refl _ _⟩
  · have f4 : ((t.state : Int) != 4) = true := bne_iff_ne.2 (by omega)
    by_cases h5 : t.state = 5
    · rw [h5] at b3
      have e : Hid (liveE t = 13) := by show _ = _; simp [liveE, overB, h5]
      clear h4 h5 f4
      go_enter Try.func38, Try.ntmps38
      go_wp2_with (go_at_call 31; refine (unless_c _ _ _).mono ?_; rintro e w' ⟨rfl, rfl⟩)
      go_ret
      exact ⟨by rw [e.out]; rfl, Mod.refl _ _⟩
    · have f5 : ((t.state : Int) != 5) = true := bne_iff_ne.2 (by omega)
      have e : Hid (liveE t = 0) := by show _ = _; simp [liveE, overB, h4, h5]
      clear h4 h5
      go_enter Try.func38, Try.ntmps38
      go_wp2_with (go_at_call 31; refine (unless_c _ _ _).mono ?_; rintro e w' ⟨rfl, rfl⟩)
      go_ret
      exact ⟨by rw [e.out]; rfl, Mod.refl _ _⟩

set_option maxRecDepth 100000 in
theorem live_nil (w : World) : Calls Try.prog 38 #[.pointer none] w fun e w' => e = .returned (.int .i64 1) ∧ Mod [] w w' := by
  go_enter Try.func38, Try.ntmps38
  go_wp2
  go_ret
  exact ⟨rfl, Mod.refl _ _⟩

/-- A function value that is asked for an error's number. -/
def AskE (w0 : World) (v : Value) (q : Int) : Prop :=
  ∃ (k : Nat) (pre cap : Array Value), v = .func (.func k) pre cap ∧ (∀ args w, (callFunc k args).run Try.prog w = .ok (.enter k args) w) ∧ ∀ W, Mod [] w0 W → Calls Try.prog k (pre ++ cap) W fun e w' => e = .returned (.int .i64 q) ∧ Mod [] W w'
theorem AskE.mod {w w' : World} {v : Value} {q : Int} (h : AskE w v q) (hm : Mod [] w w') : AskE w' v q := by
  obtain ⟨k, p, c, h1, h2, h3⟩ := h
  exact ⟨k, p, c, h1, h2, fun W hW => h3 W (hm.tr hW)⟩

set_option maxRecDepth 100000 in
set_option maxHeartbeats 1000000 in
theorem first_c (w : World) (g n : Nat) (vs : List Value) (q : Int) (m : Nat) (hn : vs.length = n) (hn2 : n ≤ 100) (hb : ∀ i v, vs[i]? = some v → w.cell? ⟨g, i, none⟩ = some v) (h0 : ∀ i v, i < m → vs[i]? = some v → AskE w v 0)
    (hm : (m = n ∧ q = 0) ∨ (m < n ∧ q ≠ 0 ∧ ∀ v, vs[m]? = some v → AskE w v q)) :
    Calls Try.prog 37 #[.slice (some ⟨g, 0, none⟩) n n] w fun e w' => e = .returned (.int .i64 q) ∧ Mod [] w w' := by
  have Hb := hid hb
  have H0 := hid h0
  have Hm := hid hm
  have Hn := hid hn
  have hmn : m ≤ n := by omega
  clear hb h0 hm hn
  go_enter Try.func37, Try.ntmps37
  go_wp2
  go_loopg [8] n (fun g' p wr => ∃ i : Nat, p = .int .i64 i ∧ i + g' = n ∧ i ≤ m ∧ Hid (Mod [] w wr))
  · exact ⟨0, rfl, by omega, by omega, Mod.refl _ _⟩
  · obtain ⟨i, rfl, hi, him, hM⟩ := hrel
    rcases Nat.lt_or_ge i n with hlt | hge
    · have hli : (i : Int) < (n : Int) := by omega
      obtain ⟨v, hv⟩ : ∃ v, vs[i]? = some v := ⟨_, List.getElem?_eq_getElem (by rw [Hn.out]; exact hlt)⟩
      have c0 := hM.out.cellSome (Hb.out i v hv) (by simp)
      rcases Nat.lt_or_ge i m with h1 | h1
      · obtain ⟨k, p, c, rfl, eg, hc⟩ := (H0.out i v h1 hv).mod hM.out
        have HC := hid hc
        clear hc hv
        go_wp2_with fail
        refine (HC.out _ (Mod.refl [] wr)).mono ?_
        rintro e w2 ⟨rfl, hm2⟩
        have HM2 := hid (hM.out.tr hm2)
        clear hm2 HC c0 eg
        go_wp2
        go_roundg (gk - 1)
        case measure => omega
        case rel => exact ⟨i + 1, by go_num, by omega, by omega, HM2⟩
      · obtain rfl : i = m := by omega
        obtain ⟨_, hq, ha⟩ := Hm.out.resolve_left (by omega)
        obtain ⟨k, p, c, rfl, eg, hc⟩ := (ha v hv).mod hM.out
        have HC := hid hc
        have hq2 : (q == 0) = false := beq_eq_false_iff_ne.2 hq
        clear hc hv ha hq
        go_wp2_with fail
        refine (HC.out _ (Mod.refl [] wr)).mono ?_
        rintro e w2 ⟨rfl, hm2⟩
        have HM2 := hid (hM.out.tr hm2)
        clear hm2 HC c0 eg
        go_wp2
        go_ret
        exact ⟨rfl, HM2.out⟩
    · have hli : ¬ (i : Int) < (n : Int) := by omega
      have hq : q = 0 := by rcases Hm.out with h | h; exact h.2; omega
      clear hge
      go_wp2
      go_ret
      exact ⟨by first | rfl | exact ret_int hq.symm, hM.out⟩
end Go.Proofs.Ytocfeeecgpklnaa
