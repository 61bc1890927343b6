/- The bag as a thing in memory; New, to. -/
import Derived.Test.YtmcflfknaleljaaM3
import Derived.Test.YtmcflfknaleljaaK4
namespace Go.Proofs.Ytmcflfknaleljaa
set_option linter.unusedVariables false
set_option linter.unusedSimpArgs false
set_option linter.unusedSectionVars false
open Go.RowKit

def bag (T : TypeId) (b : Nat) (fs : List Fr) : Res := fun w L => NetAt T w b fs L
instance (T : TypeId) (b : Nat) (fs : List Fr) : Keep (bag T b fs) where
  lt := fun h k hk => NetAt.lt h k hk
  mod := fun h hm hd => NetAt.mod h hm hd

theorem bag_new {w0 w : World} {R : Res} [Keep R] (h : Top w0 R w) (T : TypeId) : Top w0 (star (bag T w.heap.size []) R) (w.alloc (.cells #[.slice none 0 0] T)) := by
  refine Top.made h (L := [w.heap.size]) ?_ ((Mod.refl [] w).alloc _) (by simp)
  exact ⟨.slice none 0 0, [], Blk.new w _ _, Own.nil _ _ _, rfl, by simp⟩

set_option maxRecDepth 100000 in
theorem new_t {w0 w : World} {R : Res} [Keep R] (h : Top w0 R w) : Calls Try.prog 7 #[] w fun e w' => e = .returned (.pointer (some ⟨w.heap.size, 0, none⟩)) ∧ Top w0 (star (bag 51 w.heap.size []) R) w' := by
  have H := hid (bag_new h 51)
  clear h
  go_enter Try.func7, Try.ntmps7
  go_wp2
  go_ret
  exact ⟨rfl, H.out⟩

set_option maxRecDepth 100000 in
theorem to_c (w : World) (n : Int) (s : ByteArray) : Calls Try.prog 20 #[.int .i64 n, .string s] w fun e w' => e = .returned (.agg #[.int .i64 n, .string s]) ∧ Mod [] w w' := by
  have H := hid ((Mod.refl [] w).alloc (.cells #[.int .i64 n, .string s] 30))
  go_enter Try.func20, Try.ntmps20
  go_wp2
  go_returns
  exact ⟨rfl, H.out⟩

section
variable {w0 w : World} {T : TypeId} {b : Nat} {fs : List Fr} {U : Res} [Keep U]
theorem put_t (h : Top w0 (star (bag T b fs) U) w) (f : Fr) : Calls Try.prog 14 #[.pointer (some ⟨b, 0, none⟩), .agg #[.int .i64 f.dst, .string f.s]] w fun e w' => e = .returned (.int .i64 (putE fs f)) ∧ Top w0 (star (bag T b (putL fs f)) U) w' :=
  h.call fun L hn => put_c T w b fs L f hn
theorem at_t (h : Top w0 (star (bag T b fs) U) w) (i : Int) (hi1 : -9223372036854775808 ≤ i) (hi2 : i ≤ 9223372036854775807) : Calls Try.prog 16 #[.pointer (some ⟨b, 0, none⟩), .int .i64 i] w fun e w' => e = .returned (.tuple #[.agg #[.int .i64 (atF fs i).dst, .string (atF fs i).s], .int .i64 (atE fs i)]) ∧ Top w0 (star (bag T b fs) U) w' := by
  obtain ⟨L, hn⟩ := h.res
  exact h.read (at_c T w b fs L i hn hi1 hi2)
omit [Keep U] in
theorem len_t (h : Top w0 (star (bag T b fs) U) w) : Calls Try.prog 18 #[.pointer (some ⟨b, 0, none⟩)] w fun e w' => e = .returned (.int .i64 fs.length) ∧ w = w' := by
  obtain ⟨L, hn⟩ := h.res
  exact len_c T w b fs L hn
theorem take_t (h : Top w0 (star (bag T b fs) U) w) (i : Int) (hl : fs.length ≤ 400) (hi1 : -9223372036854775808 ≤ i) (hi2 : i ≤ 9223372036854775807) : Calls Try.prog 8 #[.pointer (some ⟨b, 0, none⟩), .int .i64 i] w fun e w' => e = .returned (.tuple #[.agg #[.int .i64 (atF fs i).dst, .string (atF fs i).s], .int .i64 (atE fs i)]) ∧ Top w0 (star (bag T b (dropF fs i)) U) w' :=
  h.call fun L hn => take_c T w b fs L i hn hl hi1 hi2
theorem drop_t (h : Top w0 (star (bag T b fs) U) w) (i : Int) (hl : fs.length ≤ 400) (hi1 : -9223372036854775808 ≤ i) (hi2 : i ≤ 9223372036854775807) : Calls Try.prog 12 #[.pointer (some ⟨b, 0, none⟩), .int .i64 i] w fun e w' => e = .returned (.int .i64 (atE fs i)) ∧ Top w0 (star (bag T b (dropF fs i)) U) w' :=
  h.call fun L hn => drop_c T w b fs L i hn hl hi1 hi2
theorem twice_t (h : Top w0 (star (bag T b fs) U) w) (i : Int) (hi1 : -9223372036854775808 ≤ i) (hi2 : i ≤ 9223372036854775807) : Calls Try.prog 10 #[.pointer (some ⟨b, 0, none⟩), .int .i64 i] w fun e w' => e = .returned (.int .i64 (twE fs i)) ∧ Top w0 (star (bag T b (twL fs i)) U) w' :=
  h.call fun L hn => twice_c T w b fs L i hn hi1 hi2
theorem rput_t (h : Top w0 (star (bag T b fs) U) w) (f : Fr) : Calls Try.prog 15 #[.pointer (some ⟨b, 0, none⟩), .agg #[.int .i64 f.dst, .string f.s]] w fun e w' => e = .returned (.int .i64 (putE fs f)) ∧ Top w0 (star (bag T b (putL fs f)) U) w' :=
  h.call fun L hn => rput_c T w b fs L f hn
theorem rat_t (h : Top w0 (star (bag T b fs) U) w) (i : Int) : Calls Try.prog 17 #[.pointer (some ⟨b, 0, none⟩), .int .i64 i] w fun e w' => e = .returned (.tuple #[.agg #[.int .i64 (atF fs i).dst, .string (atF fs i).s], .int .i64 (atE fs i)]) ∧ Top w0 (star (bag T b fs) U) w' := by
  obtain ⟨L, hn⟩ := h.res
  exact h.read (rat_c T w b fs L i hn)
theorem rtake_t (h : Top w0 (star (bag T b fs) U) w) (i : Int) (hl : fs.length ≤ 400) : Calls Try.prog 9 #[.pointer (some ⟨b, 0, none⟩), .int .i64 i] w fun e w' => e = .returned (.tuple #[.agg #[.int .i64 (atF fs i).dst, .string (atF fs i).s], .int .i64 (atE fs i)]) ∧ Top w0 (star (bag T b (dropF fs i)) U) w' :=
  h.call fun L hn => rtake_c T w b fs L i hn hl
theorem rdrop_t (h : Top w0 (star (bag T b fs) U) w) (i : Int) (hl : fs.length ≤ 400) : Calls Try.prog 13 #[.pointer (some ⟨b, 0, none⟩), .int .i64 i] w fun e w' => e = .returned (.int .i64 (atE fs i)) ∧ Top w0 (star (bag T b (dropF fs i)) U) w' :=
  h.call fun L hn => rdrop_c T w b fs L i hn hl
theorem rtwice_t (h : Top w0 (star (bag T b fs) U) w) (i : Int) : Calls Try.prog 11 #[.pointer (some ⟨b, 0, none⟩), .int .i64 i] w fun e w' => e = .returned (.int .i64 (twE fs i)) ∧ Top w0 (star (bag T b (twL fs i)) U) w' :=
  h.call fun L hn => rtwice_c T w b fs L i hn
end

end Go.Proofs.Ytmcflfknaleljaa
