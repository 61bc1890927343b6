/- The arguments: a call, a record, an act, and lists of these. -/
import Derived.Test.YtocfeeecgpklnaaTXP
import Derived.Lib.SmallJoins
namespace Go.Proofs.Ytocfeeecgpklnaa
set_option linter.unusedVariables false
set_option linter.unusedSimpArgs false
set_option linter.unusedSectionVars false
open Go.RowKit Go.ChangeShapes Go.WideShapes Go.Deep

theorem u64_bnd {n : Int} (h : (Lit.int .u64 n).wf = true) : ∃ k : Nat, n = k ∧ k < 18446744073709551616 := by
  simp [Lit.wf, IntKind.min, IntKind.max, IntKind.signed, IntKind.bits] at h
  obtain ⟨k, rfl⟩ := Int.eq_ofNat_of_zero_le h.1
  exact ⟨k, rfl, by omega⟩
theorem i64_bnd {n : Int} (h : (Lit.int .i64 n).wf = true) : -9223372036854775808 ≤ n ∧ n ≤ 9223372036854775807 := by
  simp [Lit.wf, IntKind.min, IntKind.max, IntKind.signed, IntKind.bits] at h
  omega
theorem okWide_slice_le {P : Program} {w : World} {r : Reach} {base : Nat} {t : TypeId} {v : Value} {e : TypeId} (ht : P.underlying t = some (.slice e)) (h : Value.okWide P w r base t v) : ∃ a len cap, v = .slice a len cap ∧ len ≤ cap := by
  simp only [Value.okWide, ht, Cell.okWide] at h
  obtain ⟨a, l, c, rfl⟩ : ∃ a len cap, v = .slice a len cap := by cases v <;> simp_all [Cell.ok]
  refine ⟨a, l, c, rfl, ?_⟩
  cases a with
  | none =>
    cases l with
    | zero => omega
    | succ l => simp [Cell.ok, ht] at h
  | some a =>
    simp only [Cell.ok, ht] at h
    exact h.1
theorem seq_sub {X : Type} {p : X → Prop} {C : Nat} {f : X → List Value} {w : World} {a : Option Addr} {xs : List {x : X // p x}} (h : IsSeq C (fun x => f x.1) w a xs) : IsSeq C f w a (xs.map Subtype.val) := by
  rcases h with rfl | ⟨b, off, rfl, hc⟩
  · exact Or.inl rfl
  · refine Or.inr ⟨b, off, rfl, fun i x hx j v hj => ?_⟩
    simp only [List.getElem?_map, Option.map_eq_some_iff] at hx
    obtain ⟨y, hy, rfl⟩ := hx
    exact hc i y hy j v hj

def Cl.Ok (c : Cl) : Prop := -9223372036854775808 ≤ c.kind ∧ c.kind ≤ 9223372036854775807 ∧ c.ts < 18446744073709551616 ∧ c.key.size ≤ 9223372036854775807 ∧ c.hi.size ≤ 9223372036854775807 ∧ c.val.size ≤ 9223372036854775807
def Rc.Ok (c : Rc) : Prop := c.ln < 18446744073709551616 ∧ c.key.size ≤ 9223372036854775807 ∧ c.vl.size ≤ 9223372036854775807
def Ac.Ok (x : Ac) : Prop := -9223372036854775808 ≤ x.what ∧ x.what ≤ 9223372036854775807 ∧ x.c.Ok ∧ x.n < 18446744073709551616 ∧ x.r.Ok ∧ x.v.size ≤ 9223372036854775807
def clL (c : Cl) : List Value := [.int .i64 c.kind, .int .u64 c.ts, .string c.key, .string c.hi, .string c.val]
theorem ac_lays : Lays 12 acC := ⟨fun _ => rfl, fun x u hu => by simp [acC] at hu; rcases hu with rfl | rfl | rfl | rfl | rfl | rfl | rfl | rfl | rfl | rfl | rfl | rfl <;> rfl, by decide⟩

section
variable {H : Type} {enc : TypeId × Value → H} {w : World} {base : Nat} {spare : Nat → Bool} {held : Bool}
theorem cl_cells {fuel : Nat} {cs : List Value} {x : DataW H × List MemPlace} (hx : DataW.trod enc Try.prog w base spare held fuel 24 cs = some x) (hlen : cs.length = 5) : ∃ c : Cl, cs = clL c ∧ c.Ok := by
  have wi : Try.prog.cellsOf 3 = 1 := by kernel_rfl
  have ws : Try.prog.cellsOf 9 = 1 := by kernel_rfl
  have wu : Try.prog.cellsOf 22 = 1 := by kernel_rfl
  obtain ⟨ys, n, _, _, _, hyl, hf⟩ := DataW.trod_struct Try.underlying24 hx
  match cs, hlen, ys, hyl with
  | [v0, v1, v2, v3, v4], _, [y0, y1, y2, y3, y4], _ =>
    have t0 : DataW.trod enc Try.prog w base spare held n 3 (([v0, v1, v2, v3, v4].drop 0).take (Try.prog.cellsOf 3)) = some y0 := hf 0 _ rfl
    have t1 : DataW.trod enc Try.prog w base spare held n 22 (([v0, v1, v2, v3, v4].drop 1).take (Try.prog.cellsOf 22)) = some y1 := hf 1 _ rfl
    have t2 : DataW.trod enc Try.prog w base spare held n 9 (([v0, v1, v2, v3, v4].drop 2).take (Try.prog.cellsOf 9)) = some y2 := hf 2 _ rfl
    have t3 : DataW.trod enc Try.prog w base spare held n 9 (([v0, v1, v2, v3, v4].drop 3).take (Try.prog.cellsOf 9)) = some y3 := hf 3 _ rfl
    have t4 : DataW.trod enc Try.prog w base spare held n 9 (([v0, v1, v2, v3, v4].drop 4).take (Try.prog.cellsOf 9)) = some y4 := hf 4 _ rfl
    rw [wi] at t0
    rw [wu] at t1
    rw [ws] at t2
    rw [ws] at t3
    rw [ws] at t4
    obtain ⟨n0, e0, _, b0⟩ := DataW.trod_int Try.underlying3 t0
    obtain ⟨g0, h0⟩ := i64_bnd b0
    obtain ⟨n1, e1, _, b1⟩ := DataW.trod_int Try.underlying22 t1
    obtain ⟨k1, rfl, h1⟩ := u64_bnd b1
    obtain ⟨s2, e2, _, h2⟩ := DataW.trod_string Try.underlying9 t2
    obtain ⟨s3, e3, _, h3⟩ := DataW.trod_string Try.underlying9 t3
    obtain ⟨s4, e4, _, h4⟩ := DataW.trod_string Try.underlying9 t4
    simp [clL, rcC] at e0 e1 e2 e3 e4
    subst e0 e1 e2 e3 e4
    exact ⟨⟨n0, k1, s2, s3, s4⟩, rfl, g0, h0, h1, (by simpa [maxLen] using h2), (by simpa [maxLen] using h3), (by simpa [maxLen] using h4)⟩

theorem rc_cells {fuel : Nat} {cs : List Value} {x : DataW H × List MemPlace} (hx : DataW.trod enc Try.prog w base spare held fuel 32 cs = some x) (hlen : cs.length = 4) : ∃ c : Rc, cs = rcC c ∧ c.Ok := by
  have wb : Try.prog.cellsOf 4 = 1 := by kernel_rfl
  have ws : Try.prog.cellsOf 9 = 1 := by kernel_rfl
  have wu : Try.prog.cellsOf 22 = 1 := by kernel_rfl
  obtain ⟨ys, n, _, _, _, hyl, hf⟩ := DataW.trod_struct Try.underlying32 hx
  match cs, hlen, ys, hyl with
  | [v0, v1, v2, v3], _, [y0, y1, y2, y3], _ =>
    have t0 : DataW.trod enc Try.prog w base spare held n 9 (([v0, v1, v2, v3].drop 0).take (Try.prog.cellsOf 9)) = some y0 := hf 0 _ rfl
    have t1 : DataW.trod enc Try.prog w base spare held n 22 (([v0, v1, v2, v3].drop 1).take (Try.prog.cellsOf 22)) = some y1 := hf 1 _ rfl
    have t2 : DataW.trod enc Try.prog w base spare held n 4 (([v0, v1, v2, v3].drop 2).take (Try.prog.cellsOf 4)) = some y2 := hf 2 _ rfl
    have t3 : DataW.trod enc Try.prog w base spare held n 9 (([v0, v1, v2, v3].drop 3).take (Try.prog.cellsOf 9)) = some y3 := hf 3 _ rfl
    rw [ws] at t0
    rw [wu] at t1
    rw [wb] at t2
    rw [ws] at t3
    obtain ⟨s0, e0, _, h0⟩ := DataW.trod_string Try.underlying9 t0
    obtain ⟨n1, e1, _, b1⟩ := DataW.trod_int Try.underlying22 t1
    obtain ⟨k1, rfl, h1⟩ := u64_bnd b1
    obtain ⟨b2, e2, _⟩ := DataW.trod_bool Try.underlying4 t2
    obtain ⟨s3, e3, _, h3⟩ := DataW.trod_string Try.underlying9 t3
    simp [clL, rcC] at e0 e1 e2 e3
    subst e0 e1 e2 e3
    exact ⟨⟨s0, k1, b2, s3⟩, rfl, h1, (by simpa [maxLen] using h0), (by simpa [maxLen] using h3)⟩

theorem ac_cells {fuel : Nat} {cs : List Value} {x : DataW H × List MemPlace} (hx : DataW.trod enc Try.prog w base spare held fuel 34 cs = some x) (hlen : cs.length = 12) : ∃ x : Ac, cs = acC x ∧ x.Ok := by
  have wC : Try.prog.cellsOf 24 = 5 := by kernel_rfl
  have wR : Try.prog.cellsOf 32 = 4 := by kernel_rfl
  have wi : Try.prog.cellsOf 3 = 1 := by kernel_rfl
  have ws : Try.prog.cellsOf 9 = 1 := by kernel_rfl
  have wu : Try.prog.cellsOf 22 = 1 := by kernel_rfl
  obtain ⟨ys, n, _, _, _, hyl, hf⟩ := DataW.trod_struct Try.underlying34 hx
  match cs, hlen, ys, hyl with
  | [v0, v1, v2, v3, v4, v5, v6, v7, v8, v9, v10, v11], _, [y0, y1, y2, y3, y4], _ =>
    have t0 : DataW.trod enc Try.prog w base spare held n 3 (([v0, v1, v2, v3, v4, v5, v6, v7, v8, v9, v10, v11].drop 0).take (Try.prog.cellsOf 3)) = some y0 := hf 0 _ rfl
    have t1 : DataW.trod enc Try.prog w base spare held n 24 (([v0, v1, v2, v3, v4, v5, v6, v7, v8, v9, v10, v11].drop 1).take (Try.prog.cellsOf 24)) = some y1 := hf 1 _ rfl
    have t2 : DataW.trod enc Try.prog w base spare held n 22 (([v0, v1, v2, v3, v4, v5, v6, v7, v8, v9, v10, v11].drop 6).take (Try.prog.cellsOf 22)) = some y2 := hf 2 _ rfl
    have t3 : DataW.trod enc Try.prog w base spare held n 32 (([v0, v1, v2, v3, v4, v5, v6, v7, v8, v9, v10, v11].drop 7).take (Try.prog.cellsOf 32)) = some y3 := hf 3 _ rfl
    have t4 : DataW.trod enc Try.prog w base spare held n 9 (([v0, v1, v2, v3, v4, v5, v6, v7, v8, v9, v10, v11].drop 11).take (Try.prog.cellsOf 9)) = some y4 := hf 4 _ rfl
    rw [wi] at t0
    rw [wC] at t1
    rw [wu] at t2
    rw [wR] at t3
    rw [ws] at t4
    obtain ⟨n0, e0, _, b0⟩ := DataW.trod_int Try.underlying3 t0
    obtain ⟨g0, h0⟩ := i64_bnd b0
    obtain ⟨c1, e1, h1⟩ := cl_cells t1 rfl
    obtain ⟨n2, e2, _, b2⟩ := DataW.trod_int Try.underlying22 t2
    obtain ⟨k2, rfl, h2⟩ := u64_bnd b2
    obtain ⟨c3, e3, h3⟩ := rc_cells t3 rfl
    obtain ⟨s4, e4, _, h4⟩ := DataW.trod_string Try.underlying9 t4
    simp [clL, rcC] at e0 e1 e2 e3 e4
    obtain ⟨q10, q11, q12, q13, q14⟩ := e1
    obtain ⟨q30, q31, q32, q33⟩ := e3
    subst e0 q10 q11 q12 q13 q14 e2 q30 q31 q32 q33 e4
    exact ⟨⟨n0, c1, k2, c3, s4⟩, rfl, g0, h0, h1, h2, h3, (by simpa [maxLen] using h4)⟩

theorem open_call {r : Reach} {b0 : Nat} {v : Value} {d : DataW H} {p : List MemPlace}
    (hv : Value.okWide Try.prog w r b0 24 v) (h : DataW.Trod enc Try.prog w base spare held 24 v d p) : ∃ x : Cl, v = clV x ∧ x.Ok := by
  have hC : Try.prog.cellsOf 24 = 5 := by kernel_rfl
  obtain ⟨cs, rfl, hsz⟩ := okWide_struct Try.underlying24 hv
  obtain ⟨fuel, hx⟩ := h
  obtain ⟨l⟩ := cs
  obtain ⟨c, hc, hok⟩ := cl_cells hx (hsz.trans hC)
  have e : l = clL c := hc
  subst e
  exact ⟨c, rfl, hok⟩

theorem open_list {X : Type} {ok : X → Prop} {C : Nat} {f : X → List Value} {ts te : TypeId} (hts : Try.prog.underlying ts = some (.slice te)) (hC : Try.prog.cellsOf te = C) (h0 : 0 < C)
    (hc : ∀ {fuel : Nat} {cs : List Value} {x : DataW H × List MemPlace}, DataW.trod enc Try.prog w base spare held fuel te cs = some x → cs.length = C → ∃ x : X, cs = f x ∧ ok x) {a : Option Addr} {len cap : Nat} {d : DataW H} {p : List MemPlace}
    (h : DataW.Trod enc Try.prog w base spare held ts (.slice a len cap) d p) : ∃ xs : List X, Lx C f w (.slice a xs.length cap) xs ∧ xs.length = len ∧ ∀ x ∈ xs, ok x := by
  have h1 : ∃ xs : List {x : X // ok x}, xs.length = len ∧ IsSeq C (fun x => f x.1) w a xs ∧ len ≤ 9223372036854775807 := by
    refine open_seq hts hC h0 (fun x : {x : X // ok x} => f x.1) ?_ h
    intro fuel cs x hx hlen
    obtain ⟨y, hy, hok⟩ := hc hx hlen
    exact ⟨⟨y, hok⟩, hy⟩
  obtain ⟨xs, hl, hs, hlen⟩ := h1
  exact ⟨xs.map Subtype.val, ⟨a, cap, rfl, seq_sub hs, by simp [hl, hlen]⟩, by simp [hl], fun x hx => by obtain ⟨y, _, rfl⟩ := List.mem_map.1 hx; exact y.2⟩

theorem open_acts {a : Option Addr} {len cap : Nat} {d : DataW H} {p : List MemPlace}
    (h : DataW.Trod enc Try.prog w base spare held 49 (.slice a len cap) d p) : ∃ xs : List Ac, Lx 12 acC w (.slice a xs.length cap) xs ∧ xs.length = len ∧ ∀ x ∈ xs, x.Ok :=
  open_list Try.underlying49 (by kernel_rfl) (by decide) ac_cells h
theorem open_recs {a : Option Addr} {len cap : Nat} {d : DataW H} {p : List MemPlace}
    (h : DataW.Trod enc Try.prog w base spare held 39 (.slice a len cap) d p) : ∃ xs : List Rc, Lx 4 rcC w (.slice a xs.length cap) xs ∧ xs.length = len ∧ ∀ x ∈ xs, x.Ok :=
  open_list Try.underlying39 (by kernel_rfl) (by decide) rc_cells h
end

theorem takes_said (ts : Int) (c : Cl) (w : World) (h : (Lit.int .u64 ts).wf = true) (hc : c.Ok) :
    Calls Try.prog 3 #[.int .u64 ts, clV c] w fun e w' => e = .returned (.bool true) ∧ Mod [] w w' := by
  obtain ⟨k, rfl, _⟩ := u64_bnd h
  obtain ⟨_, _, _, h1, h2, h3⟩ := hc
  exact takes_c k c w h1 h2 h3
end Go.Proofs.Ytocfeeecgpklnaa
