/- VersDoes' arguments. -/
import Derived.Test.YtmdomihpohekiaaVS
import Derived.Test.YtmdomihpohekiaaVL
import Derived.OpenShut
namespace Go.Proofs.Ytmdomihpohekiaa
set_option linter.unusedVariables false
set_option linter.unusedSimpArgs false
set_option linter.unusedSectionVars false
open Go.RowKit Go.ChangeShapes Go.WideShapes Go.Deep

theorem okWide_slice_le {P : Program} {w : World} {r : Reach} {base : Nat} {t : TypeId} {v : Value} {e : TypeId} (ht : P.underlying t = some (.slice e)) (h : Value.okWide P w r base t v) : ∃ a len cap, v = .slice a len cap ∧ len ≤ cap := by
  simp only [Value.okWide, ht, Cell.okWide] at h
  obtain ⟨a, l, c, rfl⟩ : ∃ a len cap, v = .slice a len cap := by cases v <;> simp_all [Cell.ok]
  refine ⟨a, l, c, rfl, ?_⟩
  cases a with
  | none =>
    cases l with
    | zero => omega
    | succ l => simp [Cell.ok, ht] at h
  | some a =>
    simp only [Cell.ok, ht] at h
    exact h.1

theorem okWide_arr {P : Program} {w : World} {r : Reach} {base : Nat} {t : TypeId} {v : Value} {n : Nat} {e : TypeId} (ht : P.underlying t = some (.array n e)) (h : Value.okWide P w r base t v) : ∃ cs, v = .agg cs ∧ cs.size = P.cellsOf t := by
  simp only [Value.okWide, ht] at h
  obtain ⟨cs, h1, h2, _⟩ := h
  exact ⟨cs, h1, h2⟩

theorem open_two {H : Type} {enc : TypeId × Value → H} {w : World} {base : Nat} {spare : Nat → Bool} {held : Bool} {r : Reach} {b0 : Nat} {v : Value} {d : DataW H} {p : List MemPlace}
    (hv : Value.okWide Try.prog w r b0 26 v) (h : DataW.Trod enc Try.prog w base spare held 26 v d p) : ∃ x : Nat × Nat, v = .agg #[.int .u64 x.1, .int .u64 x.2] ∧ x.1 < 18446744073709551616 ∧ x.2 < 18446744073709551616 := by
  have hC : Try.prog.cellsOf 26 = 2 := by kernel_rfl
  obtain ⟨cs, rfl, hsz⟩ := okWide_arr Try.underlying26 hv
  obtain ⟨fuel, hx⟩ := h
  obtain ⟨l⟩ := cs
  have c3 : Try.prog.cellsOf 23 = 1 := by kernel_rfl
  obtain ⟨ys, n, _, _, _, hyl, hf⟩ := DataW.trod_array Try.underlying26 hx
  match l, hsz.trans hC, ys, hyl with
  | [v0, v1], _, [y0, y1], _ =>
    have t0 : DataW.trod enc Try.prog w base spare held n 23 (([v0, v1].drop (0 * Try.prog.cellsOf 23)).take (Try.prog.cellsOf 23)) = some y0 := hf 0 (by decide)
    have t1 : DataW.trod enc Try.prog w base spare held n 23 (([v0, v1].drop (1 * Try.prog.cellsOf 23)).take (Try.prog.cellsOf 23)) = some y1 := hf 1 (by decide)
    rw [c3] at t0 t1
    obtain ⟨n0, e0, _, w0⟩ := DataW.trod_int Try.underlying23 t0
    obtain ⟨n1, e1, _, w1⟩ := DataW.trod_int Try.underlying23 t1
    obtain ⟨k0, rfl, h0⟩ := u64_bnd w0
    obtain ⟨k1, rfl, h1⟩ := u64_bnd w1
    simp at e0 e1
    subst e0 e1
    exact ⟨⟨k0, k1⟩, rfl, h0, h1⟩

theorem does_said {H : Type} {enc : TypeId × Value → H} {base : Nat} {spare : Nat → Bool} {held : Bool} {d : DataW H} {p : List MemPlace} (a : Option Addr) (len cap : Nat) (v : Vr) (n : Nat × Nat) (w : World)
    (h : DataW.Trod enc Try.prog w base spare held 22 (.slice a len cap) d p) (hle : len ≤ cap) (hv : v.Ok) (hn : n.1 < 18446744073709551616 ∧ n.2 < 18446744073709551616) :
    Calls Try.prog 3 #[.slice a len cap, vrV v, .agg #[.int .u64 n.1, .int .u64 n.2]] w fun e w' => e = .returned (.bool true) ∧ Mod [] w w' := by
  obtain ⟨xs, hl, rfl, hx⟩ := open_vers h
  exact does_walk a cap xs v n.1 n.2 w hle hl hx hv hn.1 hn.2

end Go.Proofs.Ytmdomihpohekiaa
