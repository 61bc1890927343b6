/- The list of acts that comes in. -/
import Derived.Test.YtmcflfknaleljaaI0
import Derived.Test.YtmcflfknaleljaaN1
import Derived.Lib.SmallJoins
namespace Go.Proofs.Ytmcflfknaleljaa
set_option linter.unusedVariables false
set_option linter.unusedSimpArgs false
set_option linter.unusedSectionVars false
open Go.RowKit Go.ChangeShapes Go.WideShapes Go.Deep

structure Deed where
  what : Int
  n : Int
  many : Int
  f : Fr
  hn1 : -9223372036854775808 ≤ n
  hn2 : n ≤ 9223372036854775807
  hs : f.s.size ≤ 9223372036854775807

def deedCells (x : Deed) : List Value := [.int .i64 x.what, .int .i64 x.n, .int .i64 x.many, .int .i64 x.f.dst, .string x.f.s]

theorem i64_bnd {n : Int} (h : (Lit.int .i64 n).wf = true) : -9223372036854775808 ≤ n ∧ n ≤ 9223372036854775807 := by
  simp [Lit.wf, IntKind.min, IntKind.max, IntKind.signed, IntKind.bits] at h
  omega

theorem open_deeds {H : Type} {enc : TypeId × Value → H} {w : World} {base : Nat} {spare : Nat → Bool} {held : Bool} {a : Option Addr} {len cap : Nat} {d : DataW H} {p : List MemPlace}
    (h : DataW.Trod enc Try.prog w base spare held 22 (.slice a len cap) d p) : ∃ xs : List Deed, xs.length = len ∧ IsSeq 5 deedCells w a xs ∧ len ≤ 9223372036854775807 := by
  refine open_seq Try.underlying22 (C := 5) (by kernel_rfl) (by decide) deedCells ?_ h
  intro fuel cs x hx hlen
  have c3 : Try.prog.cellsOf 3 = 1 := by kernel_rfl
  have c9 : Try.prog.cellsOf 9 = 1 := by kernel_rfl
  have c30 : Try.prog.cellsOf 30 = 2 := by kernel_rfl
  obtain ⟨y0, y1, y2, y3, n, _, _, t0, t1, t2, t3⟩ := Go.Joins.trod_struct4 Try.underlying32 hx
  match cs, hlen with
  | [v0, v1, v2, v3, v4], _ =>
    simp only [c3, c30] at t0 t1 t2 t3
    obtain ⟨n0, e0, _, w0⟩ := DataW.trod_int Try.underlying3 t0
    obtain ⟨n1, e1, _, w1⟩ := DataW.trod_int Try.underlying3 t1
    obtain ⟨n2, e2, _, w2⟩ := DataW.trod_int Try.underlying3 t2
    obtain ⟨z0, z1, m, _, _, s0, s1⟩ := trod_struct2 Try.underlying30 t3
    simp only [c3, c9] at s0 s1
    obtain ⟨n3, e3, _, w3⟩ := DataW.trod_int Try.underlying3 s0
    obtain ⟨ss, e4, _, hs⟩ := DataW.trod_string Try.underlying9 s1
    simp at e0 e1 e2 e3 e4
    subst e0 e1 e2 e3 e4
    exact ⟨⟨n0, n1, n2, ⟨n3, ss⟩, (i64_bnd w1).1, (i64_bnd w1).2, by simpa [maxLen] using hs⟩, rfl⟩

end Go.Proofs.Ytmcflfknaleljaa
