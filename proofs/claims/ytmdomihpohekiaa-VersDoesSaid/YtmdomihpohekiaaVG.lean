/- The list that comes in. -/
import Derived.Test.YtmdomihpohekiaaVF
import Derived.Lib.SmallJoins
namespace Go.Proofs.Ytmdomihpohekiaa
set_option linter.unusedVariables false
set_option linter.unusedSimpArgs false
set_option linter.unusedSectionVars false
open Go.RowKit Go.ChangeShapes Go.WideShapes Go.Deep

def Vr.Ok (x : Vr) : Prop := x.ts < 18446744073709551616 ∧ x.ln < 18446744073709551616 ∧ x.vl.size ≤ 9223372036854775807
abbrev VrO := {x : Vr // x.Ok}
def vroC (x : VrO) : List Value := vrC x.1

theorem u64_bnd {n : Int} (h : (Lit.int .u64 n).wf = true) : ∃ k : Nat, n = k ∧ k < 18446744073709551616 := by
  simp [Lit.wf, IntKind.min, IntKind.max, IntKind.signed, IntKind.bits] at h
  obtain ⟨k, rfl⟩ := Int.eq_ofNat_of_zero_le h.1
  exact ⟨k, rfl, by omega⟩

theorem open_vrs {H : Type} {enc : TypeId × Value → H} {w : World} {base : Nat} {spare : Nat → Bool} {held : Bool} {a : Option Addr} {len cap : Nat} {d : DataW H} {p : List MemPlace}
    (h : DataW.Trod enc Try.prog w base spare held 22 (.slice a len cap) d p) : ∃ xs : List VrO, xs.length = len ∧ IsSeq 5 vroC w a xs ∧ len ≤ 9223372036854775807 := by
  refine open_seq Try.underlying22 (C := 5) (by kernel_rfl) (by decide) vroC ?_ h
  intro fuel cs x hx hlen
  have c3 : Try.prog.cellsOf 23 = 1 := by kernel_rfl
  have c4 : Try.prog.cellsOf 4 = 1 := by kernel_rfl
  have c9 : Try.prog.cellsOf 9 = 1 := by kernel_rfl
  obtain ⟨ys, n, _, _, _, hyl, hf⟩ := DataW.trod_struct Try.underlying25 hx
  match cs, hlen, ys, hyl with
  | [v0, v1, v2, v3, v4], _, [y0, y1, y2, y3, y4], _ =>
    have t0 : DataW.trod enc Try.prog w base spare held n 23 (([v0, v1, v2, v3, v4].drop 0).take (Try.prog.cellsOf 23)) = some y0 := hf 0 _ rfl
    have t1 : DataW.trod enc Try.prog w base spare held n 23 (([v0, v1, v2, v3, v4].drop 1).take (Try.prog.cellsOf 23)) = some y1 := hf 1 _ rfl
    have t2 : DataW.trod enc Try.prog w base spare held n 4 (([v0, v1, v2, v3, v4].drop 2).take (Try.prog.cellsOf 4)) = some y2 := hf 2 _ rfl
    have t3 : DataW.trod enc Try.prog w base spare held n 9 (([v0, v1, v2, v3, v4].drop 3).take (Try.prog.cellsOf 9)) = some y3 := hf 3 _ rfl
    have t4 : DataW.trod enc Try.prog w base spare held n 4 (([v0, v1, v2, v3, v4].drop 4).take (Try.prog.cellsOf 4)) = some y4 := hf 4 _ rfl
    rw [c3] at t0 t1
    rw [c4] at t2 t4
    rw [c9] at t3
    obtain ⟨n0, e0, _, w0⟩ := DataW.trod_int Try.underlying23 t0
    obtain ⟨n1, e1, _, w1⟩ := DataW.trod_int Try.underlying23 t1
    obtain ⟨b2, e2, _⟩ := DataW.trod_bool Try.underlying4 t2
    obtain ⟨ss, e3, _, hs⟩ := DataW.trod_string Try.underlying9 t3
    obtain ⟨b4, e4, _⟩ := DataW.trod_bool Try.underlying4 t4
    obtain ⟨k0, rfl, h0⟩ := u64_bnd w0
    obtain ⟨k1, rfl, h1⟩ := u64_bnd w1
    simp at e0 e1 e2 e3 e4
    subst e0 e1 e2 e3 e4
    exact ⟨⟨⟨k0, k1, b2, ss, b4⟩, h0, h1, by simpa [maxLen] using hs⟩, rfl⟩

theorem open_vers {H : Type} {enc : TypeId × Value → H} {w : World} {base : Nat} {spare : Nat → Bool} {held : Bool} {a : Option Addr} {len cap : Nat} {d : DataW H} {p : List MemPlace}
    (h : DataW.Trod enc Try.prog w base spare held 22 (.slice a len cap) d p) : ∃ xs : List Vr, Lv w (.slice a len cap) xs ∧ xs.length = len ∧ ∀ x ∈ xs, x.Ok := by
  obtain ⟨xs, hl, hs, hlen⟩ := open_vrs h
  refine ⟨xs.map Subtype.val, ⟨a, cap, by simp [hl], ?_, by simp [hl, hlen]⟩, by simp [hl], ?_⟩
  · rcases hs with rfl | ⟨b, off, rfl, hc⟩
    · exact Or.inl rfl
    · refine Or.inr ⟨b, off, rfl, fun i x hx j v hj => ?_⟩
      simp only [List.getElem?_map, Option.map_eq_some_iff] at hx
      obtain ⟨y, hy, rfl⟩ := hx
      exact hc i y hy j v hj
  · intro x hx
    obtain ⟨y, _, rfl⟩ := List.mem_map.1 hx
    exact y.2

theorem u16_bnd {n : Int} (h : (Lit.int .u16 n).wf = true) : ∃ k : Nat, n = k ∧ k < 65536 := by
  simp [Lit.wf, IntKind.min, IntKind.max, IntKind.signed, IntKind.bits] at h
  obtain ⟨k, rfl⟩ := Int.eq_ofNat_of_zero_le h.1
  exact ⟨k, rfl, by omega⟩

theorem prunes_said {H : Type} {enc : TypeId × Value → H} {base : Nat} {spare : Nat → Bool} {held : Bool} {d : DataW H} {p : List MemPlace} (a : Option Addr) (len cap : Nat) (o t : Int) (w : World)
    (h : DataW.Trod enc Try.prog w base spare held 22 (.slice a len cap) d p) (ho : (Lit.int .u16 o).wf = true) (ht : (Lit.int .u16 t).wf = true) :
    Calls Try.prog 4 #[.slice a len cap, .int .u16 o, .int .u16 t] w fun e w' => e = .returned (.bool true) ∧ Mod [] w w' := by
  obtain ⟨xs, hl, _, _⟩ := open_vers h
  obtain ⟨k, rfl, hk⟩ := u16_bnd ho
  obtain ⟨m, rfl, hm⟩ := u16_bnd ht
  exact prunes_walk _ xs k m w hl hk hm

end Go.Proofs.Ytmdomihpohekiaa
