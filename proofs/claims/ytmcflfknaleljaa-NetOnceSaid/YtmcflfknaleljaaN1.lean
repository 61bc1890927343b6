/- The bag of frames in memory; Len, Put. -/
import Derived.Test.YtmcflfknaleljaaRows
import Derived.Test.YtmcflfknaleljaaK3
namespace Go.Proofs.Ytmcflfknaleljaa
set_option linter.unusedVariables false
set_option linter.unusedSimpArgs false
set_option linter.unusedSectionVars false
open Go.RowKit

/-- A frame. -/
structure Fr where
  dst : Int
  s : ByteArray

def frCells (fs : List Fr) : List Value := fs.flatMap fun f => [.int .i64 f.dst, .string f.s]
def frV (f : Fr) : Value := .agg #[.int .i64 f.dst, .string f.s]

theorem frCells_len (fs : List Fr) : (frCells fs).length = fs.length * 2 := by
  induction fs with
  | nil => rfl
  | cons f fs ih => simp [frCells] at ih ⊢; omega
theorem frCells_append (a b : List Fr) : frCells (a ++ b) = frCells a ++ frCells b := by simp [frCells]
theorem frCells_one (fs : List Fr) : ∀ u ∈ frCells fs, u.oneCell' = true := by
  intro u hu
  simp [frCells] at hu
  obtain ⟨f, _, rfl | rfl⟩ := hu <;> rfl
theorem frCells_get0 (fs : List Fr) : ∀ (k : Nat) (f : Fr), fs[k]? = some f → (frCells fs)[k * 2]? = some (.int .i64 f.dst) ∧ (frCells fs)[k * 2 + 1]? = some (.string f.s) := by
  induction fs with
  | nil => intro k f h; simp at h
  | cons g fs ih =>
    intro k f h
    cases k with
    | zero => simp at h; subst h; exact ⟨rfl, rfl⟩
    | succ k =>
      have := ih k f (by simpa using h)
      have e : (k + 1) * 2 = k * 2 + 1 + 1 := by omega
      have e2 : (k + 1) * 2 + 1 = k * 2 + 1 + 1 + 1 := by omega
      have hc : frCells (g :: fs) = .int .i64 g.dst :: .string g.s :: frCells fs := rfl
      rw [hc, e]
      simp only [List.getElem?_cons_succ]
      exact this

/-- A bag in memory: its block, and its frames' row; L: the blocks that it has. -/
def NetAt (T : TypeId) (w : World) (b : Nat) (fs : List Fr) (L : List Nat) : Prop :=
  ∃ v M, Blk w b #[v] T ∧ Own w 30 2 v fs.length (frCells fs) M ∧ L = b :: M ∧ b ∉ M

theorem NetAt.mod {T : TypeId} {w w' : World} {b : Nat} {fs : List Fr} {L M : List Nat} (h : NetAt T w b fs L) (hm : Mod M w w') (hd : ∀ k ∈ L, k ∉ M) : NetAt T w' b fs L := by
  obtain ⟨v, R, h1, h2, rfl, h3⟩ := h
  exact ⟨v, R, hm.blk h1 (hd b (by simp)), h2.mod hm (fun k hk => hd k (by simp [hk])), rfl, h3⟩

theorem NetAt.lt {T : TypeId} {w : World} {b : Nat} {fs : List Fr} {L : List Nat} (h : NetAt T w b fs L) : ∀ k ∈ L, k < w.heap.size := by
  obtain ⟨v, R, h1, h2, rfl, h3⟩ := h
  intro k hk
  simp at hk
  rcases hk with rfl | hk
  · exact h1.lt
  · exact h2.lt k hk

theorem len_c (T : TypeId) (w : World) (b : Nat) (fs : List Fr) (L : List Nat) (h : NetAt T w b fs L) :
    Calls Try.prog 18 #[.pointer (some ⟨b, 0, none⟩)] w fun e w' => e = .returned (.int .i64 fs.length) ∧ w = w' := by
  obtain ⟨v, R, h1, h2, rfl, h3⟩ := h
  obtain ⟨a, cap, rfl, hn1, hn2, _⟩ := h2.val
  have hc := h1.cell 0
  simp at hc
  go_enter Try.func18, Try.ntmps18
  go_wp2
  go_ret
  exact ⟨rfl, rfl⟩

def putE (fs : List Fr) (f : Fr) : Int := if f.dst < 0 ∨ 1 < f.dst ∨ f.s.toList.isEmpty = true then 2 else if 400 ≤ fs.length then 7 else 0
def putL (fs : List Fr) (f : Fr) : List Fr := if f.dst < 0 ∨ 1 < f.dst ∨ f.s.toList.isEmpty = true then fs else if 400 ≤ fs.length then fs else fs ++ [f]

/-- What a call leaves of a bag. -/
def NetSays (T : TypeId) (w : World) (b : Nat) (L : List Nat) (r : Value) (fs' : List Fr) (e : Ending) (w' : World) : Prop :=
  e = .returned r ∧ ∃ L', NetAt T w' b fs' L' ∧ Mod L w w' ∧ ∀ k ∈ L', k ∈ L ∨ w.heap.size ≤ k

theorem NetSays.same {T : TypeId} {w w' : World} {b : Nat} {fs : List Fr} {L : List Nat} {r : Value} (h : NetAt T w b fs L) (hm : Mod [] w w') : NetSays T w b L r fs (.returned r) w' :=
  ⟨rfl, L, h.mod hm (by simp), hm.mono (by simp), fun k hk => Or.inl hk⟩

theorem elem_frame : (Try.prog.info? 30).map (fun i => (i.zero, i.size, i.bytes)) = some (some (.agg #[.int .i64 0, .string ⟨#[]⟩]), 2, 24) := by kernel_rfl

theorem put_end {T : TypeId} {w W X w1 : World} {b : Nat} {fs : List Fr} {f : Fr} {v v1 : Value} {R L1 : List Nat} (h1 : Blk w b #[v] T) (h3 : b ∉ R) (hlt : ∀ k ∈ R, k < w.heap.size) (hW : Mod [] w W) (hX : Mod [] W X) (hm : Mod R X w1)
    (ho : Own w1 30 2 v1 (fs.length + 1) (frCells fs ++ frCells [f]) L1) (hf : ∀ k ∈ L1, k ∈ R ∨ X.heap.size ≤ k) (r : Value) :
    NetSays T w b (b :: R) r (fs ++ [f]) (.returned r) (w1.setCell ⟨b, 0, none⟩ v1) := by
  have hb := h1.lt
  have hwx : Mod [] w X := hW.tr hX
  have hbL : b ∉ L1 := by
    intro hk
    rcases hf b hk with h | h
    · exact h3 h
    · have := hwx.size; omega
  have hbk : Blk w1 b #[v] T := hm.blk (hwx.blk h1 (by simp)) h3
  refine ⟨rfl, b :: L1, ⟨v1, L1, hbk.set 0 v1, ?_, rfl, hbL⟩, ?_, ?_⟩
  · have : Own w1 30 2 v1 (fs ++ [f]).length (frCells (fs ++ [f])) L1 := by
      rw [frCells_append]; simpa using ho
    exact this.mod (M := [b]) ((Mod.refl _ _).setCell (by simp) _) (by intro k hk; simp; rintro rfl; exact hbL hk)
  · exact (hwx.trans hm (m := b :: R) (by simp) (by intro x hx _; simp [hx])).setCell (by simp) _
  · intro k hk
    simp at hk
    rcases hk with rfl | hk
    · exact Or.inl (by simp)
    · rcases hf k hk with h | h
      · exact Or.inl (by simp [h])
      · exact Or.inr (by have := hwx.size; omega)

set_option maxRecDepth 100000 in
set_option maxHeartbeats 1000000 in
theorem put_no (T : TypeId) (w : World) (b : Nat) (fs : List Fr) (L : List Nat) (f : Fr) (h : NetAt T w b fs L) (hb : f.dst < 0 ∨ 1 < f.dst ∨ f.s.toList.isEmpty = true) :
    Calls Try.prog 14 #[.pointer (some ⟨b, 0, none⟩), .agg #[.int .i64 f.dst, .string f.s]] w (NetSays T w b L (.int .i64 2) fs) := by
  have H := hid h
  clear h
  obtain ⟨dst, s⟩ := f
  simp only at hb ⊢
  rcases hb with hb | hb | hb
  · go_enter Try.func14, Try.ntmps14
    go_wp2
    go_ret
    exact NetSays.same H.out ((Mod.refl _ _).alloc _)
  · have h2 : 0 ≤ dst := by omega
    go_enter Try.func14, Try.ntmps14
    go_wp2
    go_ret
    exact NetSays.same H.out ((Mod.refl _ _).alloc _)
  · by_cases h1 : dst < 0
    · go_enter Try.func14, Try.ntmps14
      go_wp2
      go_ret
      exact NetSays.same H.out ((Mod.refl _ _).alloc _)
    · by_cases h2 : 1 < dst
      · go_enter Try.func14, Try.ntmps14
        go_wp2
        go_ret
        exact NetSays.same H.out ((Mod.refl _ _).alloc _)
      · go_enter Try.func14, Try.ntmps14
        go_wp2
        go_ret
        exact NetSays.same H.out ((Mod.refl _ _).alloc _)

set_option maxRecDepth 100000 in
set_option maxHeartbeats 1000000 in
theorem put_full (T : TypeId) (w : World) (b : Nat) (fs : List Fr) (L : List Nat) (f : Fr) (h : NetAt T w b fs L) (hb : ¬ (f.dst < 0 ∨ 1 < f.dst ∨ f.s.toList.isEmpty = true)) (hf : 400 ≤ fs.length) :
    Calls Try.prog 14 #[.pointer (some ⟨b, 0, none⟩), .agg #[.int .i64 f.dst, .string f.s]] w (NetSays T w b L (.int .i64 7) fs) := by
  have H := hid h
  obtain ⟨v, R, h1, h2, rfl, h3⟩ := h
  obtain ⟨a, cap, rfl, hn1, hn2, _⟩ := h2.val
  have hlt := h1.lt
  have hc := h1.cell 0
  simp at hc
  have he : f.s.toList.isEmpty = false := by
    cases hx : f.s.toList.isEmpty
    · rfl
    · exact absurd (Or.inr (Or.inr hx)) hb
  have hd1 : 0 ≤ f.dst := by omega
  have hd2 : f.dst ≤ 1 := by omega
  clear hb h1 h2 h3
  go_enter Try.func14, Try.ntmps14
  go_wp2
  go_ret
  exact NetSays.same H.out ((Mod.refl _ _).alloc _)

set_option maxRecDepth 100000 in
set_option maxHeartbeats 1000000 in
theorem put_yes (T : TypeId) (w : World) (b : Nat) (fs : List Fr) (L : List Nat) (f : Fr) (h : NetAt T w b fs L) (hb : ¬ (f.dst < 0 ∨ 1 < f.dst ∨ f.s.toList.isEmpty = true)) (hf : fs.length < 400) :
    Calls Try.prog 14 #[.pointer (some ⟨b, 0, none⟩), .agg #[.int .i64 f.dst, .string f.s]] w (NetSays T w b L (.int .i64 0) (fs ++ [f])) := by
  obtain ⟨v, R, h1, h2, rfl, h3⟩ := h
  obtain ⟨a, cap, hv, hn1, hn2, _⟩ := h2.val
  have hlt := h1.lt
  have he : f.s.toList.isEmpty = false := by
    cases hx : f.s.toList.isEmpty
    · rfl
    · exact absurd (Or.inr (Or.inr hx)) hb
  have hd1 : 0 ≤ f.dst := by omega
  have hd2 : f.dst ≤ 1 := by omega
  clear hb
  subst hv
  have hc := h1.cell 0
  simp at hc
  have h1' := hid h1
  have h2' := hid h2
  have h3' := hid h3
  clear h1 h2 h3
  go_enter Try.func14, Try.ntmps14
  go_upto_region 7 with (fail)
  have hW := (Mod.refl [] w).alloc (.cells #[.int .i64 f.dst, .string f.s] 30)
  have hbox := Blk.new w #[.int .i64 f.dst, .string f.s] 30
  have hsz : (w.alloc (.cells #[.int .i64 f.dst, .string f.s] 30)).heap.size = w.heap.size + 1 := by simp
  obtain ⟨k, hk⟩ : ∃ k, w.heap.size = k := ⟨_, rfl⟩
  generalize w.alloc (.cells #[.int .i64 f.dst, .string f.s] 30) = W at *
  rw [hk] at hbox hsz hlt ⊢
  have hk' := hid hk
  clear hk
  have hx0 := hbox.cell 0
  have hx1 := hbox.cell 1
  simp at hx0 hx1
  have hW' := hid hW
  have hc2 : W.cell? ⟨b, 0, none⟩ = some (.slice a fs.length cap) := hW.cellSome hc (by simp)
  have hfr := (hW.blk h1'.out (by simp)).free 0
  have hsz' := hid hsz
  have hlt2 : b < W.heap.size := by omega
  clear hsz hW hc
  have hO : Hid (∀ X, Mod [] W X → Own X 30 2 (.slice a fs.length cap) fs.length (frCells fs) R) := fun X hX => (h2'.out.mod hW'.out (by simp)).mod hX (by simp)
  have hR : Hid (Rdl (W.drew.alloc (.cells #[.int .i64 f.dst, .string f.s] 30)) 2 (.slice (some ⟨W.heap.size, 0, none⟩) 1 1) 1 (frCells [f])) := by
    refine ⟨rfl, Or.inr ⟨W.heap.size, 0, 1, rfl, fun j hj => ?_⟩⟩
    have hn : Blk (W.drew.alloc (.cells #[.int .i64 f.dst, .string f.s] 30)) W.heap.size #[.int .i64 f.dst, .string f.s] 30 := Blk.new W.drew _ _
    rw [hn.cell, Nat.zero_add]
    rcases (by omega : j = 0 ∨ j = 1) with rfl | rfl <;> rfl
  have hfacts : Hid (∀ (w1 : World), Mod R (W.drew.alloc (.cells #[.int .i64 f.dst, .string f.s] 30)) w1 → w1.cell? ⟨b, 0, none⟩ = some (.slice a fs.length cap) ∧ w1.frozen? ⟨b, 0, none⟩ = false ∧ b < w1.heap.size) := by
    intro w1 hm
    have hbk := hm.blk ((hW'.out.blk h1'.out (by simp)).drew.alloc (.cells #[.int .i64 f.dst, .string f.s] 30)) h3'.out
    exact ⟨hbk.cell 0, hbk.free 0, hbk.lt⟩
  go_region_law (first | (refine step_append_rdl rfl (.tmp 33) (.tmp 35) 26 30 rfl Try.underlying26 elem_frame rfl (by decide) rfl (hO.out _ ((Mod.refl _ _).drew.alloc _)) rfl hR.out (frCells_one _) (by omega) (by omega) ?_; intro v1 w1 L1 ho hm1 hf1; have hz := hfacts.out w1 hm1.out; obtain ⟨z1, z2, z3⟩ := hz; obtain ⟨a1, c1, hv1, _⟩ := ho.out.val; subst hv1))
  all_goals
    go_wp2
    go_ret
    exact put_end h1'.out h3'.out h2'.out.lt hW'.out ((Mod.refl _ _).drew.alloc _) hm1.out ho.out hf1.out _

end Go.Proofs.Ytmcflfknaleljaa
