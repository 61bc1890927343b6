/- SpanPlays' arguments. -/
import Derived.Test.YtkacjggjmdndaaaSPO
namespace Go.Proofs.Ytkacjggjmdndaaa
set_option linter.unusedVariables false
set_option linter.unusedSimpArgs false
set_option linter.unusedSectionVars false
open Go.RowKit Go.ChangeShapes Go.WideShapes Go.Deep

theorem u64_bnd {n : Int} (h : (Lit.int .u64 n).wf = true) : ∃ k : Nat, n = k ∧ k < 18446744073709551616 := by
  simp [Lit.wf, IntKind.min, IntKind.max, IntKind.signed, IntKind.bits] at h
  obtain ⟨k, rfl⟩ := Int.eq_ofNat_of_zero_le h.1
  exact ⟨k, rfl, by omega⟩
theorem i64_bnd {n : Int} (h : (Lit.int .i64 n).wf = true) : -9223372036854775808 ≤ n ∧ n ≤ 9223372036854775807 := by
  simp [Lit.wf, IntKind.min, IntKind.max, IntKind.signed, IntKind.bits] at h
  omega
theorem okWide_slice_le {P : Program} {w : World} {r : Reach} {base : Nat} {t : TypeId} {v : Value} {e : TypeId} (ht : P.underlying t = some (.slice e)) (h : Value.okWide P w r base t v) : ∃ a len cap, v = .slice a len cap ∧ len ≤ cap := by
  simp only [Value.okWide, ht, Cell.okWide] at h
  obtain ⟨a, l, c, rfl⟩ : ∃ a len cap, v = .slice a len cap := by cases v <;> simp_all [Cell.ok]
  refine ⟨a, l, c, rfl, ?_⟩
  cases a with
  | none =>
    cases l with
    | zero => omega
    | succ l => simp [Cell.ok, ht] at h
  | some a =>
    simp only [Cell.ok, ht] at h
    exact h.1

/-- What is known of each element goes with the list. -/
theorem seq_sub {X : Type} {p : X → Prop} {C : Nat} {f : X → List Value} {w : World} {a : Option Addr} {xs : List {x : X // p x}} (h : IsSeq C (fun x => f x.1) w a xs) : IsSeq C f w a (xs.map Subtype.val) := by
  rcases h with rfl | ⟨b, off, rfl, hc⟩
  · exact Or.inl rfl
  · refine Or.inr ⟨b, off, rfl, fun i x hx j v hj => ?_⟩
    simp only [List.getElem?_map, Option.map_eq_some_iff] at hx
    obtain ⟨y, hy, rfl⟩ := hx
    exact hc i y hy j v hj

theorem open_strs {H : Type} {enc : TypeId × Value → H} {w : World} {base : Nat} {spare : Nat → Bool} {held : Bool} {a : Option Addr} {len cap : Nat} {d : DataW H} {p : List MemPlace}
    (h : DataW.Trod enc Try.prog w base spare held 23 (.slice a len cap) d p) : ∃ xs : List ByteArray, Lx 1 strC w (.slice a xs.length cap) xs ∧ xs.length = len ∧ ∀ x ∈ xs, x.size ≤ 9223372036854775807 := by
  have h1 : ∃ xs : List {x : ByteArray // x.size ≤ 9223372036854775807}, xs.length = len ∧ IsSeq 1 (fun x => strC x.1) w a xs ∧ len ≤ 9223372036854775807 := by
    refine open_seq Try.underlying23 (C := 1) (by kernel_rfl) (by decide) (fun x : {x : ByteArray // x.size ≤ 9223372036854775807} => strC x.1) ?_ h
    intro fuel cs x hx hlen
    match cs, hlen with
    | [v0], _ =>
      obtain ⟨ss, e0, _, hs⟩ := DataW.trod_string Try.underlying9 hx
      simp at e0
      subst e0
      exact ⟨⟨ss, by simpa [maxLen] using hs⟩, rfl⟩
  obtain ⟨xs, hl, hs, hlen⟩ := h1
  exact ⟨xs.map Subtype.val, ⟨a, cap, rfl, seq_sub hs, by simp [hl, hlen]⟩, by simp [hl], fun x hx => by obtain ⟨y, _, rfl⟩ := List.mem_map.1 hx; exact y.2⟩

theorem open_scans {H : Type} {enc : TypeId × Value → H} {w : World} {base : Nat} {spare : Nat → Bool} {held : Bool} {a : Option Addr} {len cap : Nat} {d : DataW H} {p : List MemPlace}
    (h : DataW.Trod enc Try.prog w base spare held 22 (.slice a len cap) d p) : ∃ xs : List Rg, Lx 3 rgC w (.slice a xs.length cap) xs ∧ xs.length = len ∧ ∀ x ∈ xs, x.Ok := by
  have h1 : ∃ xs : List {x : Rg // x.Ok}, xs.length = len ∧ IsSeq 3 (fun x => rgC x.1) w a xs ∧ len ≤ 9223372036854775807 := by
    refine open_seq Try.underlying22 (C := 3) (by kernel_rfl) (by decide) (fun x : {x : Rg // x.Ok} => rgC x.1) ?_ h
    intro fuel cs x hx hlen
    have c3 : Try.prog.cellsOf 30 = 1 := by kernel_rfl
    have c9 : Try.prog.cellsOf 9 = 1 := by kernel_rfl
    obtain ⟨ys, n, _, _, _, hyl, hf⟩ := DataW.trod_struct Try.underlying32 hx
    match cs, hlen, ys, hyl with
    | [v0, v1, v2], _, [y0, y1, y2], _ =>
      have t0 : DataW.trod enc Try.prog w base spare held n 9 (([v0, v1, v2].drop 0).take (Try.prog.cellsOf 9)) = some y0 := hf 0 _ rfl
      have t1 : DataW.trod enc Try.prog w base spare held n 9 (([v0, v1, v2].drop 1).take (Try.prog.cellsOf 9)) = some y1 := hf 1 _ rfl
      have t2 : DataW.trod enc Try.prog w base spare held n 30 (([v0, v1, v2].drop 2).take (Try.prog.cellsOf 30)) = some y2 := hf 2 _ rfl
      rw [c9] at t0 t1
      rw [c3] at t2
      obtain ⟨s0, e0, _, hs0⟩ := DataW.trod_string Try.underlying9 t0
      obtain ⟨s1, e1, _, hs1⟩ := DataW.trod_string Try.underlying9 t1
      obtain ⟨n2, e2, _, w2⟩ := DataW.trod_int Try.underlying30 t2
      obtain ⟨k2, rfl, h2⟩ := u64_bnd w2
      simp at e0 e1 e2
      subst e0 e1 e2
      exact ⟨⟨⟨s0, s1, k2⟩, by simpa [maxLen] using hs0, by simpa [maxLen] using hs1, h2⟩, rfl⟩
  obtain ⟨xs, hl, hs, hlen⟩ := h1
  exact ⟨xs.map Subtype.val, ⟨a, cap, rfl, seq_sub hs, by simp [hl, hlen]⟩, by simp [hl], fun x hx => by obtain ⟨y, _, rfl⟩ := List.mem_map.1 hx; exact y.2⟩

theorem plays_said {H : Type} {enc : TypeId × Value → H} {base base' : Nat} {spare spare' : Nat → Bool} {held held' : Bool} {d d' : DataW H} {p p' : List MemPlace} (most : Int) (a : Option Addr) (len cap : Nat) (ka : Option Addr) (klen kcap : Nat) (w : World)
    (hm : (Lit.int .i64 most).wf = true) (h : DataW.Trod enc Try.prog w base spare held 22 (.slice a len cap) d p) (h' : DataW.Trod enc Try.prog w base' spare' held' 23 (.slice ka klen kcap) d' p') :
    Calls Try.prog 3 #[.int .i64 most, .slice a len cap, .slice ka klen kcap] w fun e w' => e = .returned (.bool true) ∧ Mod [] w w' := by
  obtain ⟨xs, hl, rfl, hx⟩ := open_scans h
  obtain ⟨ks, hk, rfl, hks⟩ := open_strs h'
  obtain ⟨h1, h2⟩ := i64_bnd hm
  exact plays_walk most a cap xs ka kcap ks w h1 h2 hl hx hk hks

end Go.Proofs.Ytkacjggjmdndaaa
