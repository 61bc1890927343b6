/- Two bags, the program's and the reference's. -/
import Derived.Test.YtmcflfknaleljaaO2
namespace Go.Proofs.Ytmcflfknaleljaa
set_option linter.unusedVariables false
set_option linter.unusedSimpArgs false
set_option linter.unusedSectionVars false
open Go.RowKit

abbrev Two (w0 : World) (n r : Nat) (l1 l2 : List Fr) (U : Res) (w : World) : Prop := Top w0 (star (bag 51 n l1) (star (bag 28 r l2) U)) w

section
variable {w0 w : World} {n r : Nat} {l1 l2 : List Fr} {U : Res} [Keep U]
theorem put2 (h : Two w0 n r l1 l2 U w) (f : Fr) : Calls Try.prog 14 #[.pointer (some ⟨n, 0, none⟩), .agg #[.int .i64 f.dst, .string f.s]] w fun e w' => e = .returned (.int .i64 (putE l1 f)) ∧ Two w0 n r (putL l1 f) l2 U w' := put_t h f
theorem rput2 (h : Two w0 n r l1 l2 U w) (f : Fr) : Calls Try.prog 15 #[.pointer (some ⟨r, 0, none⟩), .agg #[.int .i64 f.dst, .string f.s]] w fun e w' => e = .returned (.int .i64 (putE l2 f)) ∧ Two w0 n r l1 (putL l2 f) U w' :=
  (rput_t h.swap f).mono fun _ _ g => ⟨g.1, g.2.swap⟩
theorem at2 (h : Two w0 n r l1 l2 U w) (i : Int) (hi1 : -9223372036854775808 ≤ i) (hi2 : i ≤ 9223372036854775807) : Calls Try.prog 16 #[.pointer (some ⟨n, 0, none⟩), .int .i64 i] w fun e w' => e = .returned (.tuple #[.agg #[.int .i64 (atF l1 i).dst, .string (atF l1 i).s], .int .i64 (atE l1 i)]) ∧ Two w0 n r l1 l2 U w' := at_t h i hi1 hi2
theorem rat2 (h : Two w0 n r l1 l2 U w) (i : Int) : Calls Try.prog 17 #[.pointer (some ⟨r, 0, none⟩), .int .i64 i] w fun e w' => e = .returned (.tuple #[.agg #[.int .i64 (atF l2 i).dst, .string (atF l2 i).s], .int .i64 (atE l2 i)]) ∧ Two w0 n r l1 l2 U w' :=
  (rat_t h.swap i).mono fun _ _ g => ⟨g.1, g.2.swap⟩
theorem take2 (h : Two w0 n r l1 l2 U w) (i : Int) (hl : l1.length ≤ 400) (hi1 : -9223372036854775808 ≤ i) (hi2 : i ≤ 9223372036854775807) : Calls Try.prog 8 #[.pointer (some ⟨n, 0, none⟩), .int .i64 i] w fun e w' => e = .returned (.tuple #[.agg #[.int .i64 (atF l1 i).dst, .string (atF l1 i).s], .int .i64 (atE l1 i)]) ∧ Two w0 n r (dropF l1 i) l2 U w' := take_t h i hl hi1 hi2
theorem rtake2 (h : Two w0 n r l1 l2 U w) (i : Int) (hl : l2.length ≤ 400) : Calls Try.prog 9 #[.pointer (some ⟨r, 0, none⟩), .int .i64 i] w fun e w' => e = .returned (.tuple #[.agg #[.int .i64 (atF l2 i).dst, .string (atF l2 i).s], .int .i64 (atE l2 i)]) ∧ Two w0 n r l1 (dropF l2 i) U w' :=
  (rtake_t h.swap i hl).mono fun _ _ g => ⟨g.1, g.2.swap⟩
theorem drop2 (h : Two w0 n r l1 l2 U w) (i : Int) (hl : l1.length ≤ 400) (hi1 : -9223372036854775808 ≤ i) (hi2 : i ≤ 9223372036854775807) : Calls Try.prog 12 #[.pointer (some ⟨n, 0, none⟩), .int .i64 i] w fun e w' => e = .returned (.int .i64 (atE l1 i)) ∧ Two w0 n r (dropF l1 i) l2 U w' := drop_t h i hl hi1 hi2
theorem rdrop2 (h : Two w0 n r l1 l2 U w) (i : Int) (hl : l2.length ≤ 400) : Calls Try.prog 13 #[.pointer (some ⟨r, 0, none⟩), .int .i64 i] w fun e w' => e = .returned (.int .i64 (atE l2 i)) ∧ Two w0 n r l1 (dropF l2 i) U w' :=
  (rdrop_t h.swap i hl).mono fun _ _ g => ⟨g.1, g.2.swap⟩
theorem twice2 (h : Two w0 n r l1 l2 U w) (i : Int) (hi1 : -9223372036854775808 ≤ i) (hi2 : i ≤ 9223372036854775807) : Calls Try.prog 10 #[.pointer (some ⟨n, 0, none⟩), .int .i64 i] w fun e w' => e = .returned (.int .i64 (twE l1 i)) ∧ Two w0 n r (twL l1 i) l2 U w' := twice_t h i hi1 hi2
theorem rtwice2 (h : Two w0 n r l1 l2 U w) (i : Int) : Calls Try.prog 11 #[.pointer (some ⟨r, 0, none⟩), .int .i64 i] w fun e w' => e = .returned (.int .i64 (twE l2 i)) ∧ Two w0 n r l1 (twL l2 i) U w' :=
  (rtwice_t h.swap i).mono fun _ _ g => ⟨g.1, g.2.swap⟩
/-- A box beside the bags. -/
theorem box2 (h : Two w0 n r l1 l2 U w) (cs : Array Value) (T : TypeId) : Two w0 n r l1 l2 (star (boxR w.heap.size cs T) U) (w.alloc (.cells cs T)) :=
  (h.box cs T).swap.swap2
end

end Go.Proofs.Ytmcflfknaleljaa
