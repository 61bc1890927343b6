/- The arguments of fence's laws; what the lists of a fence say of a key. -/
import Derived.Test.YthofkkmnngmafaaFY
import Derived.Deep.Slices
import Derived.Deep.Strs
import Derived.ChangeSame
import Derived.ProofKit
namespace Go.Proofs.Ythofkkmnngmafaa
set_option linter.unusedVariables false
set_option linter.unusedSimpArgs false
set_option linter.unusedSectionVars false
open Go.RowKit Go.ChangeShapes Go.WideShapes Go.Deep

theorem i64_bnd {n : Int} (h : (Lit.int .i64 n).wf = true) : -9223372036854775808 ≤ n ∧ n ≤ 9223372036854775807 := by
  simp [Lit.wf, IntKind.min, IntKind.max, IntKind.signed, IntKind.bits] at h
  omega
theorem u8_bnd {n : Int} (h : (Lit.int .u8 n).wf = true) : ∃ k : Nat, n = k ∧ k < 256 := by
  simp [Lit.wf, IntKind.min, IntKind.max, IntKind.signed, IntKind.bits] at h
  obtain ⟨k, rfl⟩ := Int.eq_ofNat_of_zero_le h.1
  exact ⟨k, rfl, by omega⟩
/-- What is known of each element goes with the list. -/
theorem seq_sub {X : Type} {p : X → Prop} {C : Nat} {f : X → List Value} {w : World} {a : Option Addr} {xs : List {x : X // p x}} (h : IsSeq C (fun x => f x.1) w a xs) : IsSeq C f w a (xs.map Subtype.val) := by
  rcases h with rfl | ⟨b, off, rfl, hc⟩
  · exact Or.inl rfl
  · refine Or.inr ⟨b, off, rfl, fun i x hx j v hj => ?_⟩
    simp only [List.getElem?_map, Option.map_eq_some_iff] at hx
    obtain ⟨y, hy, rfl⟩ := hx
    exact hc i y hy j v hj
theorem open_strs {H : Type} {enc : TypeId × Value → H} {w : World} {base : Nat} {spare : Nat → Bool} {held : Bool} {a : Option Addr} {len cap : Nat} {d : DataW H} {p : List MemPlace}
    (h : DataW.Trod enc Try.prog w base spare held 23 (.slice a len cap) d p) : ∃ xs : List ByteArray, Lx 1 stC w (.slice a xs.length cap) xs ∧ xs.length = len ∧ ∀ x ∈ xs, x.size ≤ 9223372036854775807 := by
  have h1 : ∃ xs : List {x : ByteArray // x.size ≤ 9223372036854775807}, xs.length = len ∧ IsSeq 1 (fun x => stC x.1) w a xs ∧ len ≤ 9223372036854775807 := by
    refine open_seq Try.underlying23 (C := 1) (by kernel_rfl) (by decide) (fun x : {x : ByteArray // x.size ≤ 9223372036854775807} => stC x.1) ?_ h
    intro fuel cs x hx hlen
    match cs, hlen with
    | [v0], _ =>
      obtain ⟨ss, e0, _, hs⟩ := DataW.trod_string Try.underlying9 hx
      simp at e0
      subst e0
      exact ⟨⟨ss, by simpa [maxLen] using hs⟩, rfl⟩
  obtain ⟨xs, hl, hs, hlen⟩ := h1
  exact ⟨xs.map Subtype.val, ⟨a, cap, rfl, seq_sub hs, by simp [hl, hlen]⟩, by simp [hl], fun x hx => by obtain ⟨y, _, rfl⟩ := List.mem_map.1 hx; exact y.2⟩

/-- An act. -/
structure Ac where
  what : Int
  key : ByteArray
  pid : Nat
structure Ac.Ok (x : Ac) : Prop where
  w1 : -9223372036854775808 ≤ x.what
  w2 : x.what ≤ 9223372036854775807
  k : x.key.size ≤ 9223372036854775807
  p : x.pid < 256
def acC (x : Ac) : List Value := [.int .i64 x.what, .string x.key, .int .u8 (x.pid : Nat)]
set_option maxRecDepth 100000 in
theorem open_acts {H : Type} {enc : TypeId × Value → H} {w : World} {base : Nat} {spare : Nat → Bool} {held : Bool} {a : Option Addr} {len cap : Nat} {d : DataW H} {p : List MemPlace}
    (h : DataW.Trod enc Try.prog w base spare held 22 (.slice a len cap) d p) : ∃ xs : List Ac, Lx 3 acC w (.slice a xs.length cap) xs ∧ xs.length = len ∧ ∀ x ∈ xs, x.Ok := by
  have h1 : ∃ xs : List {x : Ac // x.Ok}, xs.length = len ∧ IsSeq 3 (fun x => acC x.1) w a xs ∧ len ≤ 9223372036854775807 := by
    refine open_seq Try.underlying22 (C := 3) (by kernel_rfl) (by decide) (fun x : {x : Ac // x.Ok} => acC x.1) ?_ h
    intro fuel cs x hx hlen
    have c3 : Try.prog.cellsOf 3 = 1 := by kernel_rfl
    have c9 : Try.prog.cellsOf 9 = 1 := by kernel_rfl
    have c5 : Try.prog.cellsOf 5 = 1 := by kernel_rfl
    obtain ⟨ys, n, _, _, _, hyl, hf⟩ := DataW.trod_struct Try.underlying28 hx
    match cs, hlen, ys, hyl with
    | [v0, v1, v2], _, [y0, y1, y2], _ =>
      have t0 : DataW.trod enc Try.prog w base spare held n 3 (([v0, v1, v2].drop 0).take (Try.prog.cellsOf 3)) = some y0 := hf 0 _ rfl
      have t1 : DataW.trod enc Try.prog w base spare held n 9 (([v0, v1, v2].drop 1).take (Try.prog.cellsOf 9)) = some y1 := hf 1 _ rfl
      have t2 : DataW.trod enc Try.prog w base spare held n 5 (([v0, v1, v2].drop 2).take (Try.prog.cellsOf 5)) = some y2 := hf 2 _ rfl
      rw [c3] at t0
      rw [c9] at t1
      rw [c5] at t2
      obtain ⟨n0, e0, _, w0⟩ := DataW.trod_int Try.underlying3 t0
      obtain ⟨s1, e1, _, hs1⟩ := DataW.trod_string Try.underlying9 t1
      obtain ⟨n2, e2, _, w2⟩ := DataW.trod_int Try.underlying5 t2
      obtain ⟨k2, rfl, h2⟩ := u8_bnd w2
      obtain ⟨h3, h4⟩ := i64_bnd w0
      simp at e0 e1 e2
      subst e0 e1 e2
      exact ⟨⟨⟨n0, s1, k2⟩, h3, h4, by simpa [maxLen] using hs1, h2⟩, rfl⟩
  obtain ⟨xs, hl, hs, hlen⟩ := h1
  exact ⟨xs.map Subtype.val, ⟨a, cap, rfl, seq_sub hs, by simp [hl, hlen]⟩, by simp [hl], fun x hx => by obtain ⟨y, _, rfl⟩ := List.mem_map.1 hx; exact y.2⟩

/-- A text's beginning. -/
def cutB (s : ByteArray) (k : Nat) : ByteArray := s.extract 0 (min s.size k)
theorem cutB_size (s : ByteArray) (k : Nat) : (cutB s k).size ≤ k := by unfold cutB; rw [ByteArray.size_extract]; omega

/-- A key's leaf by the lists. -/
theorem leaf_find {l : List Lf} (hok : OkL l) {k : ByteArray} {n p : Nat} (h : IsLeaf (sepsL l) k n) (hp : (pidsL l)[n]? = some p) : findL l k = p := by
  obtain ⟨h1, h2, h3⟩ := h
  simp only [List.getElem?_map, Option.map_eq_some_iff] at hp
  obtain ⟨x, hx, rfl⟩ := hp
  have hsep : ∀ j y, l[j + 1]? = some y → (sepsL l)[j]? = some y.1 := fun j y hy => by
    simp only [List.getElem?_drop, List.getElem?_map]
    rw [Nat.add_comm, hy]; rfl
  obtain ⟨hn, e⟩ := List.getElem?_eq_some_iff.1 hx
  have el : l = l.take n ++ (x.1, x.2) :: l.drop (n + 1) := by
    have : (x.1, x.2) = x := rfl
    rw [this, ← e, ← List.drop_eq_getElem_cons hn, List.take_append_drop]
  rw [el]
  refine findL_cut ?_ ?_
  · cases n with
    | zero =>
      obtain ⟨q, r, er⟩ := hok.head
      rw [er] at hx
      cases hx
      exact SL_mt k
    | succ m => exact h3 m x.1 rfl (hsep m x hx)
  · intro y hy
    obtain ⟨j, hj⟩ := List.mem_iff_getElem?.1 hy
    rw [List.getElem?_drop] at hj
    rw [show n + 1 + j = (n + j) + 1 by omega] at hj
    exact h2 (n + j) y.1 (by omega) (hsep _ y hj)
theorem OkL.sepsS {l : List Lf} (h : OkL l) : SrtS (sepsL l) := (List.pairwise_map.2 h.srt).drop
theorem find_sep {l : List Lf} (hok : OkL l) {j p : Nat} {s : ByteArray} (hs : (sepsL l)[j]? = some s) (hp : (pidsL l)[j + 1]? = some p) : findL l s = p := by
  obtain ⟨hj, e⟩ := List.getElem?_eq_some_iff.1 hs
  have hS := List.pairwise_iff_getElem.1 hok.sepsS
  refine leaf_find hok ⟨by omega, fun i x hi hx => ?_, fun m x hm hx => ?_⟩ hp
  · obtain ⟨hi2, e2⟩ := List.getElem?_eq_some_iff.1 hx
    rw [← e, ← e2]
    exact hS j i hj hi2 (by omega)
  · obtain rfl : m = j := by omega
    rw [hs] at hx; cases hx
    exact SL_irrefl _
theorem pids_seps {l : List Lf} (h : OkL l) : (pidsL l).length = (sepsL l).length + 1 := by
  have := h.pos
  simp
  omega
theorem Fok.count {f : Fc} (h : Fok f) : 2 ^ f.d ≤ (pidsL f.lv).length ∧ (pidsL f.lv).length ≤ 5 ^ f.d ∧ (f.d = 0 ↔ (pidsL f.lv).length = 1) := by
  have h1 := lv_count f.d f.t mt h.good.fan
  rw [List.length_map]
  have e0 : f.lv.length = (lv f.d f.t mt).length := rfl
  rw [e0]
  generalize (lv f.d f.t mt).length = n at h1
  generalize f.d = d at h1
  refine ⟨h1.1, h1.2, fun e => ?_, fun e => ?_⟩
  · subst e
    simp at h1
    omega
  · subst e
    have := Nat.lt_two_pow_self (n := d)
    omega
/-- The first leaf stays. -/
def Hd (f : Fc) (p : Nat) : Prop := ∃ r, f.lv = (mt, p) :: r
theorem Hd.ins {f : Fc} {p : Nat} (hf : Fok f) (h : Hd f p) (sep : ByteArray) (pid : Nat) : Hd (insFF f sep pid) p := by
  obtain ⟨r, e⟩ := h
  unfold Hd
  rw [hf.ins_lv]
  unfold insLL
  split
  · rename_i ha
    rw [e]
    exact putL_head (insAnsL_zero.1 ha).1
  · exact ⟨r, e⟩
theorem Hd.rem {f : Fc} {p : Nat} (hf : Fok f) (h : Hd f p) (sep : ByteArray) : Hd (remFF f sep) p := by
  obtain ⟨r, e⟩ := h
  unfold Hd
  rw [hf.rem_lv]
  unfold remLL
  split
  · rename_i hm
    have h0 := (seps_leaf hf.good hm).1
    rw [e]
    exact ⟨_, by unfold without; rw [List.filter_cons, if_pos (by simpa using fun e => h0 e.symm)]⟩
  · exact ⟨r, e⟩
theorem Hd.first {f : Fc} {p : Nat} (h : Hd f p) : (pidsL f.lv)[0]? = some p := by
  obtain ⟨r, e⟩ := h
  rw [e]; rfl
end Go.Proofs.Ythofkkmnngmafaa
